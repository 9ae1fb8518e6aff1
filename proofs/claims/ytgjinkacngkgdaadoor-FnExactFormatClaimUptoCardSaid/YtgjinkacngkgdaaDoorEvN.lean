/- Sealing, stores, boxes, values built of parts. -/
import Derived.Test.YtgjinkacngkgdaaDoorEvM
namespace Go.Ev
set_option linter.unusedVariables false
set_option linter.unusedSimpArgs false

variable {X : Cx} {I : It} {st st' : St} {a : Act} {w w' : World} {T : Nat → Prop} {P : Program}

theorem flat_rep {T D T' D' : Nat → Prop} : ∀ {k : Kd} {x : k.T} {cs : List Value}, k.flat = true → Rep T D w k x cs → Rep T' D' w' k x cs := by
  intro k
  induction k with
  | pair a b iha ihb =>
    intro x cs hf h
    simp only [Kd.flat, Bool.and_eq_true] at hf
    simp only [Rep] at h ⊢
    obtain ⟨c, d, rfl, hl, h1, h2⟩ := h
    exact ⟨c, d, rfl, hl, iha hf.1 h1, ihb hf.2 h2⟩
  | sl e => intro x cs hf; cases hf
  | ptr e => intro x cs hf; cases hf
  | clo f c => intro x cs hf; cases hf
  | self => intro x cs hf; cases hf
  | _ => intro x cs hf h; simpa [Rep] using h

/-- a sealed value stands for a value -/
def VRep (TT DD : Nat → Prop) (w : World) (u : Val) (v : Value) : Prop :=
  (u.k.isAgg = true ∧ ∃ vs : List Value, v = .agg vs.toArray ∧ Rep TT DD w u.k u.x vs) ∨ (u.k.isAgg = false ∧ Rep TT DD w u.k u.x [v])

theorem VRep.cells {TT DD : Nat → Prop} {u : Val} {v : Value} (h : VRep TT DD w u v) : Rep TT DD w u.k u.x v.cells.toList := by
  rcases h with ⟨_, vs, rfl, hr⟩ | ⟨ha, hr⟩
  · simpa [Value.cells] using hr
  · have : v.cells = #[v] := by
      have := Rep.one ha hr
      cases v <;> first | rfl | cases this
    rw [this]; exact hr

theorem coe1_ok {TT DD : Nat → Prop} (hint : Kd) {u : Val} {cs : List Value} (h : Rep TT DD w u.k u.x cs) : Rep TT DD w (coe1 hint u).k (coe1 hint u).x cs ∧ (coe1 hint u).k.isAgg = u.k.isAgg ∧ (coe1 hint u).k.size = u.k.size := by
  obtain ⟨uk, ux⟩ := u
  cases hint with
  | sl e =>
    cases uk with
    | nl =>
      simp only [Rep] at h
      subst h
      refine ⟨?_, rfl, rfl⟩
      simp only [coe1, Rep]
      exact ⟨none, 0, rfl, Nat.le_refl _, fun i x hx => by simp at hx⟩
    | _ => exact ⟨h, rfl, rfl⟩
  | _ => exact ⟨h, rfl, rfl⟩

theorem coeP_ok {TT DD : Nat → Prop} : ∀ (hint : Kd) {u : Val} {cs : List Value}, Rep TT DD w u.k u.x cs → Rep TT DD w (coeP hint u).k (coeP hint u).x cs ∧ (coeP hint u).k.isAgg = u.k.isAgg := by
  intro hint
  induction hint with
  | pair a b _ ihb =>
    intro u cs h
    obtain ⟨uk, x⟩ := u
    cases uk with
    | pair c d =>
      simp only [Rep] at h
      obtain ⟨c1, d1, rfl, hl, h1, h2⟩ := h
      obtain ⟨r1, _, r3⟩ := coe1_ok (w := w) a (u := ⟨c, x.1⟩) h1
      obtain ⟨r4, _⟩ := ihb (u := ⟨d, x.2⟩) h2
      refine ⟨?_, rfl⟩
      simp only [coeP, pairV, Rep]
      exact ⟨c1, d1, rfl, by rw [r3]; exact hl, r1, r4⟩
    | _ => exact ⟨h, rfl⟩
  | _ => intro u cs h; exact ⟨h, rfl⟩

theorem sealW_ok {TT DD : Nat → Prop} {R : Cell → Value → Prop} {f : Cell → Option Val} : ∀ {cs : List Cell} {vs : List Value} {u : Val}, (∀ c ∈ cs, ∀ v u, R c v → f c = some u → u.k.isAgg = false ∧ Rep TT DD w u.k u.x [v]) →
    All2 R cs vs → sealW f cs = some u → Rep TT DD w u.k u.x vs ∧ u.k.isAgg = true
  | [], [], u, _, _, e => by cases e; exact ⟨by simp [Rep], rfl⟩
  | c :: cs, v :: vs, u, hf, h, e => by
    obtain ⟨u1, e1, e⟩ := bnd_eq e
    obtain ⟨u2, e2, e⟩ := bnd_eq e
    cases e
    obtain ⟨h1, h2⟩ := hf c (by simp) v u1 h.1 e1
    obtain ⟨h3, _⟩ := sealW_ok (fun c hc => hf c (by simp [hc])) h.2 e2
    refine ⟨?_, rfl⟩
    simp only [pairV, Rep]
    exact ⟨[v], vs, rfl, (size_one h1).symm, h2, h3⟩
  | [], _ :: _, _, _, h, _ => h.elim
  | _ :: _, [], _, _, h, _ => h.elim

theorem sealX_ok {TT DD : Nat → Prop} {R : Cell → Value → Prop} {f : Cell → Option Val} {hint : Kd} {sv : SV} {v : Value} {u : Val} (hf : ∀ c ∈ sv.cells, ∀ v u, R c v → f c = some u → u.k.isAgg = false ∧ Rep TT DD w u.k u.x [v])
    (h : SVP R sv v) (e : sealX f hint sv = some u) : VRep TT DD w u v := by
  unfold sealX at e
  split at e
  · obtain ⟨u1, e1, e⟩ := bnd_eq e
    cases e
    obtain ⟨h1, h2⟩ := hf _ (by simp [SV.cells]) v u1 h e1
    obtain ⟨r1, r2, _⟩ := coe1_ok (w := w) hint h2
    exact .inr ⟨by rw [r2]; exact h1, r1⟩
  · obtain ⟨u1, e1, e⟩ := bnd_eq e
    cases e
    obtain ⟨vs, rfl, ha⟩ := h
    obtain ⟨h1, h2⟩ := sealW_ok (w := w) hf ha e1
    obtain ⟨r1, r2⟩ := coeP_ok (w := w) hint h1
    exact .inl ⟨by rw [r2]; exact h2, vs, rfl, r1⟩
  · cases e

theorem sealH_ok {TT DD : Nat → Prop} {k : Kd} {L off len : Nat} {v : Value} {u : Val} (h : Inv X I st a w) (hc : CellRel X.T I w (.hdr k L off len) v) (e : sealH k off len (aget st.s L) = some u)
    (hD : ∀ b, I.D b → DD b) (hL : ∀ o, aget st.s L = some o → ∀ b, blkOf I L b → TT b) : u.k.isAgg = false ∧ Rep TT DD w u.k u.x [v] := by
  cases ho : aget st.s L with
  | none => rw [ho] at e; cases e
  | some o =>
    rw [ho] at e
    obtain ⟨l, hl, e⟩ := bnd_eq e
    cases e
    obtain ⟨ek, rfl⟩ := asL_some hl
    subst ek
    obtain ⟨hlab, hobj, hn⟩ := h.s L o ho
    exact ⟨rfl, hdr_rep hc hobj hn (fun b y e => ⟨hL o ho b ⟨y, e⟩, (hlab.own b y e).lt⟩) hD⟩

/-- sealed to be stored for good -/
theorem sealDC_ok {D' : Nat → Prop} {c : Cell} {v : Value} {u : Val} (h : Inv X I st a w) (hc : CellRel X.T I w c v) (e : sealDC st c = some u) (hD : ∀ b, I.D b → D' b)
    (hL : ∀ L ∈ c.labels, L < PL → ∀ o, aget st.s L = some o → ∀ b, blkOf I L b → D' b) : u.k.isAgg = false ∧ Rep D' D' w u.k u.x [v] := by
  unfold sealDC at e
  split at e
  · rename_i tv k x
    obtain ⟨hf, e⟩ := ifB_some e
    cases e
    refine ⟨hc.1, ?_⟩
    simp only [Bool.or_eq_true, Bool.not_eq_true'] at hf
    rcases hf with hf | hf
    · subst hf
      exact hc.2.mono (fun b hb => by rcases hb with hb | ⟨hb, _⟩; exact hD b hb; cases hb) hD
    · exact flat_rep hf hc.2
  · rename_i tv k l
    obtain ⟨hf, e⟩ := ifB_some e
    cases e
    refine ⟨rfl, ?_⟩
    simp only [Bool.not_eq_true'] at hf
    subst hf
    exact hc.2.mono (fun b hb => by rcases hb with hb | ⟨hb, _⟩; exact hD b hb; cases hb) hD
  · rename_i k L off len
    obtain ⟨hp, e⟩ := ifB_some e
    simp only [decide_eq_true_eq] at hp
    exact sealH_ok h hc e hD fun o ho b hb => hL L (by simp [Cell.labels]) hp o ho b hb
  · cases e

theorem labelsOf_mem : ∀ {cs : List Cell} {c : Cell} {L : Nat}, c ∈ cs → L ∈ c.labels → L ∈ labelsOf cs
  | c' :: cs, c, L, h, hL => by
    simp only [labelsOf, List.mem_append]
    rcases List.mem_cons.1 h with rfl | h
    · exact .inl hL
    · exact .inr (labelsOf_mem h hL)

theorem sealD_ok {D' : Nat → Prop} {hint : Kd} {sv : SV} {v : Value} {u : Val} (h : Inv X I st a w) (hv : VR X.T I w sv v) (e : sealX (sealDC st) hint sv = some u) (hD : ∀ b, I.D b → D' b)
    (hL : ∀ L ∈ labelsOf sv.cells, L < PL → ∀ o, aget st.s L = some o → ∀ b, blkOf I L b → D' b) : VRep D' D' w u v :=
  sealX_ok (f := sealDC st) (fun c hc v u hr he => sealDC_ok h hr he hD fun L hl => hL L (labelsOf_mem hc hl)) hv e

theorem asK_ok {TT DD : Nat → Prop} {k : Kd} {u : Val} {x : k.T} {cs : List Value} (e : asK k u = some x) (h : Rep TT DD w u.k u.x cs) : Rep TT DD w k x cs := by
  obtain ⟨uk, ux⟩ := u
  cases k with
  | sl ek =>
    simp only [asK, toSl] at e
    split at e
    · rename_i q
      cases q
      cases e
      simp only [Rep] at h
      subst h
      simp only [Rep]
      exact ⟨none, 0, rfl, Nat.le_refl _, fun i x hx => by simp at hx⟩
    · rename_i q
      cases q
      obtain ⟨rfl, rfl⟩ := asL_some e
      exact h
    · cases e
  | int i => obtain ⟨q, hq⟩ := asV_some e; simp only at q; subst q; rw [hq, castV_rfl]; exact h
  | bool => obtain ⟨q, hq⟩ := asV_some e; simp only at q; subst q; rw [hq, castV_rfl]; exact h
  | str => obtain ⟨q, hq⟩ := asV_some e; simp only at q; subst q; rw [hq, castV_rfl]; exact h
  | pair a b => obtain ⟨q, hq⟩ := asV_some e; simp only at q; subst q; rw [hq, castV_rfl]; exact h
  | unit => obtain ⟨q, hq⟩ := asV_some e; simp only at q; subst q; rw [hq, castV_rfl]; exact h
  | _ => cases e

/-- cells put into a row -/
def putAt (cs : List Value) (off : Nat) (vs : List Value) : List Value := cs.take off ++ vs ++ cs.drop (off + vs.length)

theorem putK_ok {D : Nat → Prop} : ∀ {k : Kd} {fo : Nat} {x y : k.T} {u : Val} {ecs vs : List Value}, putK fo k x u = some y → Rep D D w k x ecs → Rep D D w u.k u.x vs → fo + vs.length ≤ ecs.length ∧ Rep D D w k y (putAt ecs fo vs) := by
  intro k
  induction k with
  | pair a b iha ihb =>
    intro fo x y u ecs vs e hx hu
    simp only [Rep] at hx
    obtain ⟨c, d, rfl, hl, h1, h2⟩ := hx
    cases fo with
    | zero =>
      obtain ⟨y1, e1, e⟩ := bnd_eq e
      cases e
      have hv := asK_ok e1 hu
      have hvl : vs.length = c.length := by rw [rep_length hv, hl]
      refine ⟨by simp; omega, ?_⟩
      have : putAt (c ++ d) 0 vs = vs ++ d := by
        simp only [putAt, List.take_zero, List.nil_append, Nat.zero_add, hvl]
        rw [List.drop_left]
      rw [this]
      simp only [Rep]
      exact ⟨vs, d, rfl, rep_length hv, hv, h2⟩
    | succ n =>
      simp only [putK] at e
      obtain ⟨hs, e⟩ := ifB_some e
      obtain ⟨z, e1, e⟩ := bnd_eq e
      cases e
      simp only [beq_iff_eq] at hs
      obtain ⟨h3, h4⟩ := ihb e1 h2 hu
      have hc1 : c.length = 1 := by omega
      refine ⟨by simp; omega, ?_⟩
      have : putAt (c ++ d) (n + 1) vs = c ++ putAt d n vs := by
        have e1 : n + 1 = c.length + n := by omega
        have e2 : n + 1 + vs.length = c.length + (n + vs.length) := by omega
        simp only [putAt]
        rw [e2, e1, List.take_length_add_append, List.drop_length_add_append]
        simp
      rw [this]
      simp only [Rep]
      exact ⟨c, _, rfl, hl, h1, h4⟩
  | int ik =>
    intro fo x y u ecs vs e hx hu
    cases fo with
    | zero => have hv := asK_ok (k := .int ik) e hu; have h1 := rep_length hx; have h2 := rep_length hv; simp only [Kd.size] at h1 h2; exact ⟨by omega, by simpa [putAt, h2, ← h1, List.drop_eq_nil_of_le] using hv⟩
    | succ n => cases e
  | bool =>
    intro fo x y u ecs vs e hx hu
    cases fo with
    | zero => have hv := asK_ok (k := .bool) e hu; have h1 := rep_length hx; have h2 := rep_length hv; simp only [Kd.size] at h1 h2; exact ⟨by omega, by simpa [putAt, h2, ← h1, List.drop_eq_nil_of_le] using hv⟩
    | succ n => cases e
  | str =>
    intro fo x y u ecs vs e hx hu
    cases fo with
    | zero => have hv := asK_ok (k := .str) e hu; have h1 := rep_length hx; have h2 := rep_length hv; simp only [Kd.size] at h1 h2; exact ⟨by omega, by simpa [putAt, h2, ← h1, List.drop_eq_nil_of_le] using hv⟩
    | succ n => cases e
  | sl ek ih =>
    intro fo x y u ecs vs e hx hu
    cases fo with
    | zero => have hv := asK_ok (k := .sl ek) e hu; have h1 := rep_length hx; have h2 := rep_length hv; simp only [Kd.size] at h1 h2; exact ⟨by omega, by simpa [putAt, h2, ← h1, List.drop_eq_nil_of_le] using hv⟩
    | succ n => cases e
  | _ => intro fo x y u ecs vs e hx hu; cases fo <;> cases e

theorem putE_ok {D : Nat → Prop} {ag : Bool} {k : Kd} {fo : Nat} {x y : k.T} {u : Val} {ecs vs : List Value} (e : putE ag k fo x u = some y) (hx : Rep D D w k x ecs) (hu : Rep D D w u.k u.x vs) :
    fo + vs.length ≤ ecs.length ∧ Rep D D w k y (putAt ecs fo vs) := by
  simp only [putE, ifB_ite] at e
  split at e
  · split at e
    · rename_i hfo
      simp only [beq_iff_eq] at hfo
      subst hfo
      have hv := asK_ok e hu
      have h1 := rep_length hx; have h2 := rep_length hv
      refine ⟨by omega, ?_⟩
      have : putAt ecs 0 vs = vs := by simp [putAt, h2, ← h1]
      rw [this]; exact hv
    · cases e
  · exact putK_ok e hx hu

theorem putAt_length (cs vs : List Value) (off : Nat) (h : off + vs.length ≤ cs.length) : (putAt cs off vs).length = cs.length := (cut_cells cs vs off h).2.2

theorem putAt_get (cs vs : List Value) (off j : Nat) (h : off + vs.length ≤ cs.length) : (putAt cs off vs)[j]? = if off ≤ j ∧ j < off + vs.length then vs[j - off]? else cs[j]? := by
  obtain ⟨h1, h2, h3⟩ := cut_cells cs vs off h
  split
  · rename_i hj
    have hl : j - off < vs.length := by omega
    have := h1 (j - off) vs[j - off] (List.getElem?_eq_getElem hl)
    rw [show off + (j - off) = j by omega] at this
    rw [List.getElem?_eq_getElem hl]
    exact this
  · rename_i hj
    rcases Nat.lt_or_ge j off with hlt | hge
    · exact h2 j hlt
    · have : off + vs.length ≤ j := by omega
      simp only [putAt]
      have hp : (cs.take off ++ vs).length = off + vs.length := by simp; omega
      rw [List.getElem?_append_right (by omega), hp, List.getElem?_drop]
      congr 1
      omega

theorem run_storeAt {t : TypeId} {g o : Nat} {v : Value} {vs : List Value} {cur : Array Value} {et : TypeId} (hk : (tyOf P t).ok = true) (hv : v.cells.toList = vs) (hl : vs.length = (tyOf P t).size)
    (hg : w.heap[g]? = some (.cells cur et (0, 0))) (hfit : o + vs.length ≤ cur.size) (h1 : ∀ u ∈ vs, u.oneCell' = true) :
    (Instr.storeAt t (.pointer (some ⟨g, o, none⟩)) v).run P w = .ok () (w.setRow g (putAt cur.toList o vs).toArray) := by
  obtain ⟨i, d, hi, hd, hsz, _⟩ := tyOf_known P t (.inl hk)
  have hst := run_storeCells_at P g o et vs 0 cur w hg (by simpa using hfit) h1
  simp only [Nat.add_zero] at hst
  have hcs : v.cells.size = i.size := by rw [← hsz, ← hl, ← hv]; simp
  simp only [Instr.storeAt, Instr.sureAddr, storeVar, Sem.run_bind, Sem.run_pure, Result.andThen_ok, run_size hi, hcs, hv, hst, putAt]
  simp [hst]

theorem setCells_eq : ∀ (r : List Cell) (cs : List Cell) (off : Nat), off + r.length ≤ cs.length → setCells cs off r = cs.take off ++ r ++ cs.drop (off + r.length)
  | [], cs, off, _ => by simp [setCells]
  | c :: r, cs, off, h => by
    simp only [List.length_cons] at h
    simp only [setCells]
    rw [setCells_eq r (cs.set off c) (off + 1) (by simp; omega)]
    have hlt : off < cs.length := by omega
    have e1 : (cs.set off c).take (off + 1) = cs.take off ++ [c] := by
      rw [List.take_set, List.take_succ_eq_append_getElem hlt]
      rw [List.set_append_right _ _ (by simp; omega)]
      have : off - (cs.take off).length = 0 := by simp; omega
      rw [this]; rfl
    have e2 : (cs.set off c).drop (off + 1 + r.length) = cs.drop (off + 1 + r.length) := by
      rw [List.drop_set_of_lt (by omega)]
    rw [e1, e2]
    simp [Nat.add_assoc, Nat.add_comm 1]

theorem All2.take {α β : Type} {R : α → β → Prop} {l : List α} {r : List β} (h : All2 R l r) (n : Nat) : All2 R (l.take n) (r.take n) := by
  have := h.seg 0 n
  simpa [Ev.seg] using this

theorem All2.drop {α β : Type} {R : α → β → Prop} {l : List α} {r : List β} (h : All2 R l r) (n : Nat) : All2 R (l.drop n) (r.drop n) := by
  have := h.seg n (l.length - n)
  have e1 : (l.drop n).take (l.length - n) = l.drop n := List.take_of_length_le (by simp)
  have e2 : (r.drop n).take (l.length - n) = r.drop n := List.take_of_length_le (by simp [h.length])
  simpa [Ev.seg, e1, e2] using this

theorem All2.setCells {R : Cell → Value → Prop} {cs new : List Cell} {vs news : List Value} (h : All2 R cs vs) (hn : All2 R new news) {off : Nat} (hl : off + new.length ≤ cs.length) :
    All2 R (Ev.setCells cs off new) (putAt vs off news) := by
  rw [setCells_eq new cs off hl, putAt, ← hn.length]
  exact ((h.take off).append hn).append (h.drop _)

theorem sv_cells {R : Cell → Value → Prop} {sv : SV} {v : Value} (h : SVP R sv v) (hc : ∀ c v, R c v → v.oneCell' = true) (hne : 0 < sv.cells.length) : All2 R sv.cells v.cells.toList := by
  cases sv with
  | one c =>
    have h : R c v := h
    have : v.cells = #[v] := by
      have := hc c v h
      cases v <;> first | rfl | cases this
    rw [this]
    exact ⟨h, trivial⟩
  | agg cs => obtain ⟨vs, rfl, ha⟩ := h; simpa [Value.cells, SV.cells] using ha
  | _ => simp [SV.cells] at hne

theorem all_one {R : Cell → Value → Prop} {cs : List Cell} {vs : List Value} (h : All2 R cs vs) (hc : ∀ c v, R c v → v.oneCell' = true) : ∀ v ∈ vs, v.oneCell' = true := by
  intro v hv
  obtain ⟨i, hi⟩ := List.mem_iff_getElem?.1 hv
  have hl : i < cs.length := by
    rw [h.length]
    rcases Nat.lt_or_ge i vs.length with h' | h'
    · exact h'
    · rw [List.getElem?_eq_none h'] at hi; cases hi
  obtain ⟨u, hu, hr⟩ := h.get i _ (List.getElem?_eq_getElem hl)
  rw [hi] at hu; cases hu
  exact hc _ _ hr

end Go.Ev
