/- Freezing, forgetting, and steps of the memory. -/
import Derived.Test.YtgjinkacngkgdaaDoorEvE
namespace Go.Ev
set_option linter.unusedVariables false

variable {X : Cx} {I : It} {st st' : St} {a : Act} {w w' : World}

theorem seg_length {α : Type} (l : List α) (off n : Nat) (h : off + n ≤ l.length) : (seg l off n).length = n := by
  simp [seg]; omega

theorem seg_get {α : Type} {l : List α} {off n i : Nat} {x : α} (h : (seg l off n)[i]? = some x) : i < n ∧ l[off + i]? = some x := by
  simp only [seg, List.getElem?_take] at h
  split at h
  · rename_i hi; exact ⟨hi, by simpa [List.getElem?_drop] using h⟩
  · simp at h

theorem hdr_rep {T T' D' : Nat → Prop} {o : SObj} {L off len : Nat} {v : Value} (h : CellRel T I w (.hdr o.k L off len) v) (ho : ObjRel I.D w (I.β L) o) (hn : o.l.length = I.ln L)
    (hlt : ∀ b y, I.β L = some (b, y) → T' b ∧ b < w.heap.size) (hD : ∀ b, I.D b → D' b) : Rep T' D' w (.sl o.k) (seg o.l off len) [v] := by
  obtain ⟨A, c, rfl, hl, hol, hc⟩ := h
  have hlen : (seg o.l off len).length = len := seg_length _ _ _ (by omega)
  simp only [Rep]
  refine ⟨A, c, by rw [hlen], by rw [hlen]; exact hl, fun i x hx => ?_⟩
  obtain ⟨hi, hx⟩ := seg_get hx
  rcases hc with rfl | ⟨b, base, e1, e2, hr⟩
  · omega
  · obtain ⟨b', base', ecs, e3, hel, hrep, hcells⟩ := ho _ x hx
    rw [e1] at e3; cases e3
    refine ⟨b, _, ecs, e2, (hlt b base e1).1, (hlt b base e1).2, hel, hrep.tr (fun b hb hl => ⟨hD b hb, hl, fun _ _ x => x⟩) (fun b hb hl => ⟨hD b hb, hl, fun _ _ x => x⟩), ?_⟩
    have : base + off * o.k.size + i * o.k.size = base + (off + i) * o.k.size := by rw [Nat.add_mul, Nat.add_assoc]
    rw [this]; exact hcells

theorem asL_some {a b : Kd} {l : List a.T} {l' : List b.T} (h : asL a b l = some l') : ∃ e : a = b, l' = castL e l := by
  unfold asL at h
  split at h
  · rename_i e; cases h; exact ⟨e, rfl⟩
  · cases h

theorem asV_some {a b : Kd} {x : a.T} {y : b.T} (h : asV a b x = some y) : ∃ e : a = b, y = castV e x := by
  unfold asV at h
  split at h
  · rename_i e; cases h; exact ⟨e, rfl⟩
  · cases h

def It.addD (I : It) (q : Nat → Prop) : It := ⟨fun b => I.D b ∨ q b, I.β, I.ln, I.γ⟩

theorem CellRel.addD {T : Nat → Prop} {c : Cell} {v : Value} {q : Nat → Prop} (h : CellRel T I w c v) : CellRel T (I.addD q) w c v :=
  h.tr (fun b hb hlt => ⟨.inl hb, ⟨hlt, fun _ _ x => x⟩⟩) (fun b _ hlt => ⟨hlt, fun _ _ x => x⟩) (Shp.refl w) (fun l hm => ⟨rfl, rfl⟩) (fun B _ => rfl)

def blkOf (I : It) (L b : Nat) : Prop := ∃ y, I.β L = some (b, y)

theorem CellRel.frzC {T : Nat → Prop} {c : Cell} {v : Value} {L : Nat} {o : SObj} (h : CellRel T I w c v) (ho : ObjRel I.D w (I.β L) o) (hn : o.l.length = I.ln L)
    (hlt : ∀ b y, I.β L = some (b, y) → b < w.heap.size) : CellRel T (I.addD (blkOf I L)) w (frzC L o c) v := by
  cases c with
  | hdr k l off len =>
    simp only [Ev.frzC, ifB_ite, beq_iff_eq]
    split
    · rename_i e; subst e
      cases ha : asL o.k k o.l with
      | none => exact h.one
      | some l' =>
        obtain ⟨e, rfl⟩ := asL_some ha
        subst e
        refine ⟨rfl, ?_⟩
        exact hdr_rep h ho hn (fun b y e => ⟨.inl (.inr ⟨y, e⟩), hlt b y e⟩) (fun b hb => .inl hb)
    · exact h.addD
  | eref k l i fo =>
    simp only [Ev.frzC, ifB_ite, beq_iff_eq]
    split
    · exact h.one
    · exact h.addD
  | _ => exact h.addD

theorem Wld.addD {D q : Nat → Prop} (h : Wld X D w) (hq : ∀ b, q b → b < w.heap.size ∧ (X.w0.heap.size ≤ b ∨ X.Mv b)) : Wld X (fun b => D b ∨ q b) w :=
  ⟨h.shp, h.frm, fun b hb => hb.elim (h.dlt b) fun hb => (hq b hb).1, fun b hb => .inl (h.d0 b hb), fun b hb => hb.elim (h.dn b) fun hb => .inr (hq b hb).2⟩

theorem Inv.frz (h : Inv X I st a w) {L : Nat} {o : SObj} (hL : L < PL) (ho : aget st.s L = some o) : Inv X (I.addD (blkOf I L)) (frz L st (some o)) a w := by
  obtain ⟨hlab, hobj, hn⟩ := h.s L o ho
  have hq : ∀ b, blkOf I L b → b < w.heap.size ∧ (X.w0.heap.size ≤ b ∨ X.Mv b) := fun b ⟨y, e⟩ => ⟨(hlab.own b y e).lt, hlab.new b y e hL⟩
  have hc : ∀ c v, CellRel X.T I w c v → CellRel X.T (I.addD (blkOf I L)) w (frzC L o c) v := fun c v hc => hc.frzC hobj hn fun b y e => (hlab.own b y e).lt
  have hown : ∀ b, (∀ y, I.β L ≠ some (b, y)) → OwnB X I.D w b → OwnB X (I.addD (blkOf I L)).D w b := fun b hne hb => hb.tr (Nat.le_refl _) fun hd => hd.elim id fun ⟨y, e⟩ => (hne y e).elim
  have hbx : ∀ B x, aget ((st.mapC (frzC L o)).setS (adel st.s L)).b B = some x → ∃ y, aget st.b B = some y ∧ x = mapBox (frzC L o) y := by
    intro B x hx
    simp only [St.setS, St.mapC, aget_amap] at hx
    cases hq : aget st.b B with
    | none => simp [hq] at hx
    | some y => simp [hq] at hx; exact ⟨y, rfl, hx.symm⟩
  refine ⟨h.wld.addD hq, h.n, h.nb, h.df, ?_, ?_, ?_, ?_, ?_, ?_⟩
  · intro i v hv
    simp only [Ev.frz, St.setS, St.mapC, aget_amap] at hv
    cases hq : aget st.t i with
    | none => simp [hq] at hv
    | some u => simp [hq] at hv; subst hv; exact (h.t i u hq).map hc
  · intro l o' hq'
    obtain ⟨hne, hq'⟩ := aget_adel_some hq'
    obtain ⟨h1, h2, h3⟩ := h.s l o' hq'
    refine ⟨⟨fun b y e => hown b (fun y' e' => hne (h.sd l L o' o b y y' hq' ho e e')) (h1.own b y e), h1.new, h1.old, h1.fix⟩, h2.tr (fun b hb hl => ⟨.inl hb, hl, fun _ _ x => x⟩) (fun b y e => ⟨(h1.own b y e).lt, fun _ _ x => x⟩), h3⟩
  · intro l l' o1 o2 b x x' e1 e2
    exact h.sd l l' o1 o2 b x x' (aget_adel_some e1).2 (aget_adel_some e2).2
  · intro B x hx
    obtain ⟨y, hy, rfl⟩ := hbx B x hx
    obtain ⟨h1, h2⟩ := h.b B y hy
    exact ⟨⟨hown _ (fun y' e' => h.sb L o B y _ y' ho hy e' rfl) h1.own, h1.new, h1.old, h1.fix⟩, h2.map hc⟩
  · intro B B' x x' hx hx' e
    obtain ⟨y, hy, rfl⟩ := hbx B x hx
    obtain ⟨y', hy', rfl⟩ := hbx B' x' hx'
    exact h.bd B B' y y' hy hy' e
  · intro l o' B x b y e1 hx e
    obtain ⟨z, hz, rfl⟩ := hbx B x hx
    exact h.sb l o' B z b y (aget_adel_some e1).2 hz e

theorem Inv.freeze (h : Inv X I st a w) (L : Nat) : ∃ I', Inv X I' (st.freeze L) a w ∧ (∀ b, I.D b → I'.D b) ∧ I'.β = I.β ∧ I'.ln = I.ln ∧ I'.γ = I.γ ∧
    (L < PL → ∀ o, aget st.s L = some o → ∀ b, blkOf I L b → I'.D b) ∧ (∀ l o, l ≠ L → aget st.s l = some o → aget (st.freeze L).s l = some o) ∧
    (∀ b, I'.D b → I.D b ∨ ∃ l o, aget st.s l = some o ∧ blkOf I l b) ∧ (∀ l o, aget (st.freeze L).s l = some o → aget st.s l = some o) := by
  unfold St.freeze
  rw [ifB_ite]
  split
  · rename_i hL
    refine ⟨I, h.kill' L, fun _ x => x, rfl, rfl, rfl, fun hl => ?_, fun l o hne ho => ?_, fun b hb => .inl hb, fun l o ho => ?_⟩
    · have : PL ≤ L := by simpa using hL
      omega
    · rw [St.kill_s, if_neg fun e => hne e.symm]; exact ho
    · rw [St.kill_s] at ho
      split at ho
      · cases ho
      · exact ho
  · rename_i hL
    have hL : L < PL := by simpa using hL
    cases ho : aget st.s L with
    | none => exact ⟨I, h, fun _ x => x, rfl, rfl, rfl, fun _ o e => (by cases e), fun l o _ e => e, fun b hb => .inl hb, fun l o e => e⟩
    | some o =>
      refine ⟨_, h.frz hL ho, fun b hb => .inl hb, rfl, rfl, rfl, fun _ _ _ b hb => .inr hb, fun l o' hne e => ?_, fun b hb => hb.imp id fun hb => ⟨L, o, ho, hb⟩, fun l o' e => ?_⟩
      · simp only [Ev.frz, St.setS, aget_adel]
        rw [if_neg fun e => hne e.symm]; exact e
      · exact (aget_adel_some e).2

theorem Inv.freezes : ∀ (Ls : List Nat) {I : It} {st : St}, Inv X I st a w → ∃ I', Inv X I' (freezes Ls st) a w ∧ (∀ b, I.D b → I'.D b) ∧ I'.β = I.β ∧ I'.ln = I.ln ∧ I'.γ = I.γ ∧
    (∀ L ∈ Ls, L < PL → ∀ o, aget st.s L = some o → ∀ b, blkOf I L b → I'.D b) ∧ (∀ l o, l ∉ Ls → aget st.s l = some o → aget (freezes Ls st).s l = some o) ∧
    (∀ b, I'.D b → I.D b ∨ ∃ l o, aget st.s l = some o ∧ blkOf I l b) ∧ (∀ l o, aget (freezes Ls st).s l = some o → aget st.s l = some o)
  | [], I, st, h => ⟨I, h, fun _ x => x, rfl, rfl, rfl, fun L hL => (by simp at hL), fun l o _ e => e, fun b hb => .inl hb, fun l o e => e⟩
  | L :: Ls, I, st, h => by
    obtain ⟨I1, h1, d1, b1, l1, g1, f1, k1, c1, m1⟩ := h.freeze L
    obtain ⟨I2, h2, d2, b2, l2, g2, f2, k2, c2, m2⟩ := Inv.freezes Ls h1
    refine ⟨I2, h2, fun b hb => d2 b (d1 b hb), by rw [b2, b1], by rw [l2, l1], by rw [g2, g1], fun L' hL' hlt o ho b hb => ?_, fun l o hl ho => ?_, fun b hb => ?_, fun l o ho => m1 l o (m2 l o ho)⟩
    · by_cases e : L' = L
      · subst e; exact d2 b (f1 hlt o ho b hb)
      · rcases List.mem_cons.1 hL' with e' | hm
        · exact (e e').elim
        · exact f2 L' hm hlt o (k1 L' o e ho) b (by obtain ⟨y, hy⟩ := hb; exact ⟨y, by rw [b1]; exact hy⟩)
    · simp only [List.mem_cons, not_or] at hl
      exact k2 l o hl.2 (k1 l o hl.1 ho)
    · rcases c2 b hb with hb | ⟨l, o, ho, y, hy⟩
      · exact c1 b hb
      · exact .inr ⟨l, o, m1 l o ho, y, by rw [← b1]; exact hy⟩

theorem Inv.kills : ∀ (Ls : List Nat) {st : St}, Inv X I st a w → Inv X I (kills Ls st) a w
  | [], _, h => h
  | L :: Ls, _, h => Inv.kills Ls (h.kill' L)

/-- less is known -/
theorem Inv.sub (h : Inv X I st a w) (hn : st'.n = st.n) (ht : ∀ i v, aget st'.t i = some v → aget st.t i = some v) (hs : ∀ i v, aget st'.s i = some v → aget st.s i = some v)
    (hb : ∀ i v, aget st'.b i = some v → aget st.b i = some v) : Inv X I st' a w where
  wld := h.wld
  n := by rw [hn]; exact h.n
  nb := by rw [hn]; exact h.nb
  df := h.df
  t := fun i v e => h.t i v (ht i v e)
  s := fun L o e => h.s L o (hs L o e)
  sd := fun L L' o o' b x x' e e' => h.sd L L' o o' b x x' (hs _ _ e) (hs _ _ e')
  b := fun B x e => h.b B x (hb B x e)
  bd := fun B B' x x' e e' => h.bd B B' x x' (hb _ _ e) (hb _ _ e')
  sb := fun L o B x b y e e' => h.sb L o B x b y (hs _ _ e) (hb _ _ e')

theorem Inv.lose (h : Inv X I st a w) (l : List (Nat × Nat)) : Inv X I (st.lose l) a w := by
  have hk : ∀ {α : Type} (q : Nat → Bool) (l : List (Nat × α)) i v, aget (akeep q l) i = some v → aget l i = some v := by
    intro α q l i v e
    rw [aget_akeep] at e
    split at e
    · exact e
    · cases e
  exact h.sub rfl (hk _ _) (hk _ _) (hk _ _)

theorem Inv.under (h : Inv X I st a w) {g : Bool} (hg : g = true) : Inv X I (st.under g) a w where
  wld := h.wld
  n := h.n
  nb := h.nb
  df := h.df
  t := by
    intro i v e
    simp only [St.under, aget_amap] at e
    cases hq : aget st.t i with
    | none => simp [hq] at e
    | some u =>
      simp [hq] at e; subst e
      have hu := h.t i u hq
      cases u with
      | gd b c =>
        simp only [underV, ifB_ite]
        split
        · rename_i hi; exact hu.1 (impB_elim hi hg)
        · exact hu
      | _ => exact hu
  s := h.s
  sd := h.sd
  b := h.b
  bd := h.bd
  sb := h.sb

/-! the memory goes on -/
/-- what is kept where no block of ours but g is written -/
theorem Inv.keeps (h : Inv X I st a w) (g : Nat) (hs : Shp w w') (hk : ∀ b, b < w.heap.size → b ≠ g → Same w w' b) (hg : ¬ I.D g) (ht : ¬ X.T g) :
    ∀ c v, CellRel X.T I w c v → CellRel X.T I w' c v := fun c v hc =>
  hc.tr (fun b hb hl => ⟨hb, (hk b hl fun e => hg (e ▸ hb)).keep hl⟩) (fun b hb hl => (hk b hl fun e => ht (e ▸ hb)).keep hl) hs (fun _ _ => ⟨rfl, rfl⟩) (fun _ _ => rfl)

theorem Wld.step {D : Nat → Prop} (h : Wld X D w) (g : Nat) (hs : Shp w w') (hk : ∀ b, b < w.heap.size → b ≠ g → Same w w' b) (hg : X.w0.heap.size ≤ g ∨ X.Mv g ∨ X.Mm g) : Wld X D w' where
  shp := h.shp.trans hs
  frm := by
    intro b hb h1 h2
    have hne : b ≠ g := by
      rintro rfl
      rcases hg with hg | hg | hg
      · omega
      · exact h1 hg
      · exact h2 hg
    have := hk b (Nat.lt_of_lt_of_le hb h.shp.1) hne
    unfold Same at *
    rw [this]; exact h.frm b hb h1 h2
  dlt := fun b hb => Nat.lt_of_lt_of_le (h.dlt b hb) hs.1
  d0 := h.d0
  dn := h.dn

theorem Inv.alloc (h : Inv X I st a w) (hs : Shp w w') (hk : ∀ b, b < w.heap.size → Same w w' b) : Inv X I st a w' := by
  have hsz := h.wld.shp.1
  have hc := h.keeps w.heap.size hs (fun b hb _ => hk b hb) (fun hd => by have := h.wld.dlt _ hd; omega) (fun ht => by have := (X.hT _ ht).1; omega)
  have kp : ∀ b, b < w.heap.size → Keep w w' b := fun b hb => (hk b hb).keep hb
  refine ⟨h.wld.step w.heap.size hs (fun b hb _ => hk b hb) (.inl hsz), h.n, h.nb, h.df, fun i v e => (h.t i v e).mono hc, ?_, h.sd, ?_, h.bd, h.sb⟩
  · intro L o e
    obtain ⟨h1, h2, h3⟩ := h.s L o e
    exact ⟨⟨fun b y q => (h1.own b y q).tr hs.1 id, h1.new, h1.old, h1.fix⟩, h2.tr (fun b hb hl => ⟨hb, kp b hl⟩) (fun b y q => kp b (h1.own b y q).lt), h3⟩
  · intro B x e
    obtain ⟨h1, vs, ha, hcs, hr, hl⟩ := h.b B x e
    exact ⟨⟨h1.own.tr hs.1 id, h1.new, h1.old, h1.fix⟩, vs, ha.mono fun c v _ _ => hc c v, hcs.keep (kp _ h1.own.lt), hr.shp hs, hl⟩

/-- an object is written -/
theorem Inv.writeL (h : Inv X I st a w) {L : Nat} {o o' : SObj} {g y : Nat} (he : aget st.s L = some o) (hb : I.β L = some (g, y)) (hs : Shp w w') (hk : ∀ b, b < w.heap.size → b ≠ g → Same w w' b)
    (ho : ObjRel I.D w' (I.β L) o') (hn : o'.l.length = o.l.length) : Inv X I (setObj L o' st) a w' := by
  obtain ⟨g1, g2, g3⟩ := h.s L o he
  have hc := h.keeps g hs hk (g1.own g y hb).nd (g1.own g y hb).nt
  have kp : ∀ b, b < w.heap.size → b ≠ g → Keep w w' b := fun b hb hne => (hk b hb hne).keep hb
  have hw : X.w0.heap.size ≤ g ∨ X.Mv g ∨ X.Mm g := by
    rcases Nat.lt_or_ge L PL with hl | hl
    · exact (g1.new g y hb hl).imp id .inl
    · exact .inr (.inr (g1.old g y hb hl))
  refine ⟨h.wld.step g hs hk hw, h.n, h.nb, h.df, fun i v e => (h.t i v e).mono hc, ?_, ?_, ?_, h.bd, ?_⟩
  · intro l o1 e
    simp only [setObj, St.setS, aget_aset] at e
    split at e
    · rename_i e'; subst e'; cases e
      exact ⟨⟨fun b y q => (g1.own b y q).tr hs.1 id, g1.new, g1.old, g1.fix⟩, ho, by rw [hn]; exact g3⟩
    · rename_i hne
      obtain ⟨h1, h2, h3⟩ := h.s l o1 e
      refine ⟨⟨fun b y q => (h1.own b y q).tr hs.1 id, h1.new, h1.old, h1.fix⟩, h2.tr (fun b hd hl => ⟨hd, kp b hl fun q => (g1.own g y hb).nd (q ▸ hd)⟩) (fun b z q => kp b (h1.own b z q).lt fun q' => ?_), h3⟩
      subst q'
      exact hne (h.sd L l o o1 b y z he e hb q)
  · intro l l' o1 o2 b x x' e1 e2
    have hx : ∀ l o1, aget (setObj L o' st).s l = some o1 → ∃ o2, aget st.s l = some o2 := by
      intro l o1 e
      simp only [setObj, St.setS, aget_aset] at e
      split at e
      · rename_i e'; subst e'; exact ⟨o, he⟩
      · exact ⟨o1, e⟩
    obtain ⟨p1, q1⟩ := hx l o1 e1
    obtain ⟨p2, q2⟩ := hx l' o2 e2
    exact h.sd l l' p1 p2 b x x' q1 q2
  · intro B x e
    obtain ⟨h1, vs, ha, hcs, hr, hl⟩ := h.b B x e
    exact ⟨⟨h1.own.tr hs.1 id, h1.new, h1.old, h1.fix⟩, vs, ha.mono fun c v _ _ => hc c v, hcs.keep (kp _ h1.own.lt fun q => h.sb L o B x g y he e hb q), hr.shp hs, hl⟩
  · intro l o1 B x b z e1 hx q
    simp only [setObj, St.setS, aget_aset] at e1
    split at e1
    · rename_i e'; subst e'; exact h.sb _ o B x b z he hx q
    · exact h.sb l o1 B x b z e1 hx q

/-- a box is written -/
theorem Inv.writeB (h : Inv X I st a w) {B : Nat} {x x' : Bool × List Cell} (he : aget st.b B = some x) (hs : Shp w w') (hk : ∀ b, b < w.heap.size → b ≠ I.γ B → Same w w' b)
    (ho : BoxRel X.T I w' (I.γ B) x') : Inv X I (st.setB (aset st.b B x')) a w' := by
  obtain ⟨g1, g2⟩ := h.b B x he
  have hc := h.keeps (I.γ B) hs hk g1.own.nd g1.own.nt
  have kp : ∀ b, b < w.heap.size → b ≠ I.γ B → Keep w w' b := fun b hb hne => (hk b hb hne).keep hb
  have hw : X.w0.heap.size ≤ I.γ B ∨ X.Mv (I.γ B) ∨ X.Mm (I.γ B) := by
    rcases Nat.lt_or_ge B PL with hl | hl
    · exact .inl (g1.new hl)
    · exact .inr (.inr (g1.old hl))
  have hx : ∀ l o1, aget (aset st.b B x') l = some o1 → ∃ o2, aget st.b l = some o2 := by
    intro l o1 e
    simp only [aget_aset] at e
    split at e
    · rename_i e'; subst e'; exact ⟨x, he⟩
    · exact ⟨o1, e⟩
  refine ⟨h.wld.step (I.γ B) hs hk hw, h.n, h.nb, h.df, fun i v e => (h.t i v e).mono hc, ?_, h.sd, ?_, ?_, ?_⟩
  · intro l o1 e
    obtain ⟨h1, h2, h3⟩ := h.s l o1 e
    exact ⟨⟨fun b y q => (h1.own b y q).tr hs.1 id, h1.new, h1.old, h1.fix⟩, h2.tr (fun b hd hl => ⟨hd, kp b hl fun q => g1.own.nd (q ▸ hd)⟩) (fun b z q => kp b (h1.own b z q).lt fun q' => h.sb l o1 B x b z e he q q'.symm), h3⟩
  · intro l y e
    simp only [St.setB, aget_aset] at e
    split at e
    · rename_i e'; subst e'; cases e
      exact ⟨⟨g1.own.tr hs.1 id, g1.new, g1.old, g1.fix⟩, ho⟩
    · rename_i hne
      obtain ⟨h1, vs, ha, hcs, hr, hl⟩ := h.b l y e
      exact ⟨⟨h1.own.tr hs.1 id, h1.new, h1.old, h1.fix⟩, vs, ha.mono fun c v _ _ => hc c v, hcs.keep (kp _ h1.own.lt fun q => hne (h.bd l B y x e he q).symm), hr.shp hs, hl⟩
  · intro B1 B2 x1 x2 e1 e2
    obtain ⟨p1, q1⟩ := hx B1 x1 e1
    obtain ⟨p2, q2⟩ := hx B2 x2 e2
    exact h.bd B1 B2 p1 p2 q1 q2
  · intro l o1 B1 x1 b z e1 e2 q
    obtain ⟨p1, q1⟩ := hx B1 x1 e2
    exact h.sb l o1 B1 p1 b z e1 q1 q

def It.atB (I : It) (B g : Nat) : It := ⟨I.D, I.β, I.ln, setFn I.γ B g⟩

/-- a box is known -/
theorem Inv.addB (h : Inv X I st a w) {B : Nat} {x : Bool × List Cell} (hok : BoxOk X I.D w B (I.γ B)) (hx : BoxRel X.T I w (I.γ B) x)
    (hd : ∀ b y, b ≠ B → aget st.b b = some y → I.γ b ≠ I.γ B) (hs : ∀ L o b y, aget st.s L = some o → I.β L = some (b, y) → I.γ B ≠ b) : Inv X I (st.setB (aset st.b B x)) a w := by
  refine ⟨h.wld, h.n, h.nb, h.df, h.t, h.s, h.sd, ?_, ?_, ?_⟩
  · intro b y e
    simp only [St.setB, aget_aset] at e
    split at e
    · rename_i e'; subst e'; cases e; exact ⟨hok, hx⟩
    · exact h.b b y e
  · intro b b' y y' e e' q
    simp only [St.setB, aget_aset] at e e'
    split at e
    · rename_i e1
      split at e'
      · rename_i e2; exact e1.symm.trans e2
      · rename_i e2; subst e1; exact (hd b' y' (fun q => e2 q.symm) e' q.symm).elim
    · rename_i e1
      split at e'
      · rename_i e2; subst e2; exact (hd b y (fun q => e1 q.symm) e q).elim
      · exact h.bd b b' y y' e e' q
  · intro L o b y g z e e' q
    simp only [St.setB, aget_aset] at e'
    split at e'
    · rename_i e1; subst e1; exact hs L o g z e q
    · exact h.sb L o b y g z e e' q

end Go.Ev
