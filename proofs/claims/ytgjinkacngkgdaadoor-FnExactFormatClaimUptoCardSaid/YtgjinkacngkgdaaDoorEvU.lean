/- Functions: what the evaluator says of one is a contract. -/
import Derived.Test.YtgjinkacngkgdaaDoorEvT
namespace Go.Ev
set_option linter.unusedVariables false
set_option linter.unusedSimpArgs false

variable {X : Cx} {I : It} {st st' : St} {a : Act} {w w' : World} {T : Nat → Prop} {P : Program}

/-! results -/
def resOne (tmps : Array Value) : ResultVar → Sem Value
  | .tmp t => pure (tmps.getD t undef)
  | .cell a t => do loadVar t (← asAddr (tmps.getD a undef))

theorem run_mapM {α : Type} {f : α → Sem Value} : ∀ {l : List α} {vs : List Value}, All2 (fun x v => (f x).run P w = .ok v w) l vs → (l.mapM f).run P w = .ok vs w
  | [], [], _ => by simp
  | x :: l, v :: vs, h => by simp [List.mapM_cons, h.1, run_mapM h.2]
  | [], _ :: _, h => h.elim
  | _ :: _, [], h => h.elim

theorem run_results {fn : Func} {tmps : Array Value} {vs : List Value} (h : All2 (fun x v => (resOne tmps x).run P w = .ok v w) fn.results.toList vs) : (results fn tmps).run P w = .ok (oneOr vs) w := by
  have e : results fn tmps = (do let vs ← fn.results.mapM (resOne tmps); pure (if h : vs.size = 1 then vs[0] else .tuple vs)) := by
    unfold results
    congr 1
    first
      | done
      | (congr 1; funext x; cases x <;> rfl)
  rw [e, Array.mapM_eq_mapM_toList]
  simp only [Sem.run_bind, Sem.run_map, run_mapM h, Result.andThen_ok, Sem.run_pure]
  match vs with
  | [] => rfl
  | [v] => rfl
  | v :: u :: r => simp [oneOr]

theorem retSVs_ok {env : Env} (hP : env.P = P) (h : Inv X I st a w) : ∀ {rs : List ResultVar} {svs : List SV}, retSVs env st rs = some svs → ∃ vs, All2 (fun x v => (resOne a.tmps x).run P w = .ok v w) rs vs ∧ All2 (VR X.T I w) svs vs
  | [], svs, e => by cases e; exact ⟨[], trivial, trivial⟩
  | .tmp t :: r, svs, e => by
    obtain ⟨l, e1, e2⟩ := bnd_eq e
    cases e2
    obtain ⟨vs, h1, h2⟩ := retSVs_ok hP h e1
    exact ⟨_ :: vs, ⟨rfl, h1⟩, ⟨h.ev (.tmp t), h2⟩⟩
  | .cell c t :: r, svs, e => by
    obtain ⟨sv, e0, e⟩ := bnd_eq e
    obtain ⟨l, e1, e2⟩ := bnd_eq e
    cases e2
    obtain ⟨vs, h1, h2⟩ := retSVs_ok hP h e1
    have e0' : evLoad (tyOf P t) st (st.ev (.tmp c)) = some sv := by rw [← hP]; exact e0
    obtain ⟨v, hr, hv⟩ := evLoad_ok (P := P) h (h.ev (.tmp c)) e0'
    refine ⟨v :: vs, ⟨?_, h1⟩, ⟨hv, h2⟩⟩
    have hx : a.eval (.tmp c) = a.tmps.getD c undef := rfl
    rw [hx] at hr
    simp only [resOne]
    cases hq : a.tmps.getD c undef with
    | pointer A =>
      rw [hq] at hr
      cases A with
      | none => simp [Instr.loadAt, Instr.sureAddr] at hr
      | some A => simpa [Instr.loadAt, Instr.sureAddr, asAddr] using hr
    | _ => rw [hq] at hr; simp [Instr.loadAt, Instr.sureAddr] at hr

/-- where a block of a result comes from -/
def Src (I : It) (st : St) (cs : List Cell) (b : Nat) : Prop := ∃ L ∈ labelsOf cs, L < PL ∧ (∃ o, aget st.s L = some o) ∧ blkOf I L b

theorem modeOf_tv : ∀ {cs : List Cell} {c : Cell}, c ∈ cs → cellMode c = .tv → modeOf cs = .tv
  | c0 :: cs, c, h, hm => by
    simp only [modeOf]
    rcases List.mem_cons.1 h with rfl | h
    · rw [hm]; rfl
    · rw [modeOf_tv h hm]; cases cellMode c0 <;> rfl

theorem modeOf_own : ∀ {cs : List Cell} {c : Cell}, modeOf cs = .own → c ∈ cs → cellMode c = .own
  | c0 :: cs, c, hm, h => by
    simp only [modeOf] at hm
    rcases List.mem_cons.1 h with rfl | h
    · cases hq : cellMode c with
      | own => rfl
      | deep => rw [hq] at hm; cases hx : modeOf cs <;> rw [hx] at hm <;> cases hm
      | tv => rw [hq] at hm; cases hm
    · cases hq : cellMode c0 with
      | own => rw [hq] at hm; exact modeOf_own hm h
      | deep => rw [hq] at hm; cases hx : modeOf cs <;> rw [hx] at hm <;> cases hm
      | tv => rw [hq] at hm; cases hm

theorem own_cell {D' : Nat → Prop} {c : Cell} {v : Value} {u : Val} (h : Inv X I st a w) (hD : ∀ b, I.D b → D' b) (hc : CellRel X.T I w c v) (e : sealRC st c = some u) (hm : cellMode c = .own) :
    u.k.isAgg = false ∧ ∃ bo, explode false u.k u.x = [.val false u.k u.x] ∧ OwnC D' w (.val false u.k u.x) v bo ∧ (∀ b y, bo = some (b, y) → ∃ L ∈ c.labels, L < PL ∧ (∃ o, aget st.s L = some o) ∧ blkOf I L b) := by
  unfold sealRC at e
  split at e
  · rename_i tv k x
    cases e
    have hflat : k ≠ .self → explode false k x = [.val false k x] := fun hs => explode_single false x hc.1 hs
    refine ⟨hc.1, none, ?_, ?_, by simp⟩
    · exact hflat (by rintro rfl; have := hc.2; simp [Rep] at this)
    · cases k with
      | int i => exact ⟨rfl, rfl, flat_rep rfl hc.2⟩
      | bool => exact ⟨rfl, rfl, flat_rep rfl hc.2⟩
      | str => exact ⟨rfl, rfl, flat_rep rfl hc.2⟩
      | nl => exact ⟨rfl, rfl, flat_rep rfl hc.2⟩
      | unit => cases hc.1
      | pair _ _ => cases hc.1
      | self => have := hc.2; simp [Rep] at this
      | sl e => simp only [cellMode, tvMode, ifB_ite] at hm; split at hm <;> cases hm
      | ptr e => simp only [cellMode, tvMode, ifB_ite] at hm; split at hm <;> cases hm
      | clo f c => simp only [cellMode, tvMode, ifB_ite] at hm; split at hm <;> cases hm
  · rename_i tv k l
    simp only [cellMode, tvMode, ifB_ite] at hm
    split at hm <;> cases hm
  · rename_i k L off len
    obtain ⟨hp, e1⟩ := ifB_some e
    simp only [decide_eq_true_eq] at hp
    cases ho : aget st.s L with
    | none => rw [ho] at e1; cases e1
    | some o =>
      rw [ho] at e1
      obtain ⟨l, hl, e2⟩ := bnd_eq e1
      cases e2
      obtain ⟨ek, rfl⟩ := asL_some hl
      subst ek
      obtain ⟨hlab, hobj, hn⟩ := h.s L o ho
      obtain ⟨A, c, rfl, hlc, hol, hA⟩ := hc
      have hlen : (seg o.l off len).length = len := seg_length _ _ _ (by omega)
      refine ⟨rfl, ?_⟩
      rcases hA with rfl | ⟨b, base, hβ, rfl, hr⟩
      · refine ⟨none, rfl, ⟨⟨A, 0, by rw [castL_rfl, hlen], by rw [castL_rfl, hlen]; omega, .inl rfl⟩, ?_⟩, by simp⟩
        intro i x hx
        rw [castL_rfl] at hx
        obtain ⟨hi, _⟩ := seg_get hx
        omega
      · rw [hβ] at hobj
        refine ⟨some (b, base + off * o.k.size), rfl, ⟨⟨_, c, by rw [castL_rfl, hlen], by rw [castL_rfl, hlen]; exact hlc, .inr ⟨b, base + off * o.k.size, rfl, rfl, ?_⟩⟩, ?_⟩, ?_⟩
        · have : base + off * o.k.size + c * o.k.size = base + (off + c) * o.k.size := by rw [Nat.add_mul, Nat.add_assoc]
          rw [this]; exact hr
        · exact (obj_seg hobj).monoD hD
        · intro b' y q
          cases q
          exact ⟨L, by simp [Cell.labels], hp, ⟨o, ho⟩, base, hβ⟩
  · cases e

theorem own_cells {D' : Nat → Prop} (h : Inv X I st a w) (hD : ∀ b, I.D b → D' b) : ∀ {cs : List Cell} {vs : List Value} {u : Val}, All2 (CellRel X.T I w) cs vs → (∀ c ∈ cs, cellMode c = .own) → sealW (sealRC st) cs = some u →
    u.k.isAgg = true ∧ ∃ os, OwnL D' w (explode false u.k u.x) vs os ∧ (∀ b ∈ blks os, Src I st cs b) ∧ ((labelsOf cs).Nodup → (blks os).Nodup)
  | [], [], u, _, _, e => by cases e; exact ⟨rfl, [], trivial, fun b hb => (by cases hb), fun _ => List.nodup_nil⟩
  | c :: cs, v :: vs, u, ha, hm, e => by
    obtain ⟨u1, e1, e⟩ := bnd_eq e
    obtain ⟨u2, e2, e⟩ := bnd_eq e
    cases e
    obtain ⟨h1, bo, h2, h3, h4⟩ := own_cell h hD ha.1 e1 (hm c (by simp))
    obtain ⟨_, os, h5, h6, h7⟩ := own_cells h hD ha.2 (fun c hc => hm c (by simp [hc])) e2
    refine ⟨rfl, bo :: os, ?_, fun b hb => ?_, fun hnd => ?_⟩
    · simp only [pairV, explode, h2]
      exact ⟨h3, h5⟩
    · rw [blks_cons, List.mem_append] at hb
      rcases hb with hb | hb
      · rcases bo with _ | ⟨b', y⟩
        · cases hb
        · simp only [List.mem_singleton] at hb
          subst hb
          obtain ⟨L, hL, hr⟩ := h4 b y rfl
          exact ⟨L, by simp [labelsOf, hL], hr⟩
      · obtain ⟨L, hL, hr⟩ := h6 b hb
        exact ⟨L, by simp [labelsOf, hL], hr⟩
    · simp only [labelsOf] at hnd
      obtain ⟨n1, n2, n3⟩ := List.nodup_append.1 hnd
      rw [blks_cons]
      rcases bo with _ | ⟨b', y⟩
      · exact h7 n2
      · simp only [List.singleton_append, List.nodup_cons]
        refine ⟨fun hb => ?_, h7 n2⟩
        obtain ⟨L, hL, _, ⟨o, ho⟩, y1, hy1⟩ := h4 b' y rfl
        obtain ⟨L', hL', _, ⟨o', ho'⟩, y2, hy2⟩ := h6 b' hb
        exact n3 L hL L' hL' (h.sd L L' o o' b' y1 y2 ho ho' hy1 hy2)
  | [], _ :: _, _, h, _, _ => h.elim
  | _ :: _, [], _, h, _, _ => h.elim

theorem ownC_coe1 {D' : Nat → Prop} (hint : Kd) {u : Val} {v : Value} {bo : Option (Nat × Nat)} (ha : u.k.isAgg = false) (h2 : explode false u.k u.x = [.val false u.k u.x]) (h : OwnC D' w (.val false u.k u.x) v bo) :
    explode false (coe1 hint u).k (coe1 hint u).x = [.val false (coe1 hint u).k (coe1 hint u).x] ∧ OwnC D' w (.val false (coe1 hint u).k (coe1 hint u).x) v bo := by
  obtain ⟨uk, ux⟩ := u
  cases hint with
  | sl e =>
    cases uk with
    | nl =>
      obtain ⟨rfl, _, hr⟩ := h
      simp only [Rep, List.cons.injEq, and_true] at hr
      subst hr
      exact ⟨rfl, ⟨⟨none, 0, rfl, Nat.le_refl _, .inl rfl⟩, fun i x hx => by simp [coe1] at hx⟩⟩
    | _ => exact ⟨h2, h⟩
  | _ => exact ⟨h2, h⟩

theorem ownL_split {D' : Nat → Prop} : ∀ {a b : List Cell} {vs : List Value} {os : List (Option (Nat × Nat))}, OwnL D' w (a ++ b) vs os → ∃ v1 v2 o1 o2, vs = v1 ++ v2 ∧ os = o1 ++ o2 ∧ OwnL D' w a v1 o1 ∧ OwnL D' w b v2 o2
  | [], b, vs, os, h => ⟨[], vs, [], os, rfl, rfl, trivial, h⟩
  | c :: a, b, v :: vs, o :: os, h => by
    obtain ⟨v1, v2, o1, o2, rfl, rfl, h1, h2⟩ := ownL_split (a := a) h.2
    exact ⟨v :: v1, v2, o :: o1, o2, rfl, rfl, ⟨h.1, h1⟩, h2⟩
  | _ :: _, _, [], _, h => h.elim
  | _ :: _, _, _ :: _, [], h => h.elim

theorem ownL_append {D' : Nat → Prop} : ∀ {a b : List Cell} {v1 v2 : List Value} {o1 o2 : List (Option (Nat × Nat))}, OwnL D' w a v1 o1 → OwnL D' w b v2 o2 → OwnL D' w (a ++ b) (v1 ++ v2) (o1 ++ o2)
  | [], b, [], v2, [], o2, _, h => h
  | c :: a, b, v :: v1, v2, o :: o1, o2, h, h' => ⟨h.1, ownL_append h.2 h'⟩
  | [], _, _ :: _, _, _, _, h, _ => h.elim
  | [], _, [], _, _ :: _, _, h, _ => h.elim
  | _ :: _, _, [], _, _, _, h, _ => h.elim
  | _ :: _, _, _ :: _, _, [], _, h, _ => h.elim

theorem ownL_coe1 {D' : Nat → Prop} (hint : Kd) {u : Val} {vs : List Value} {os : List (Option (Nat × Nat))} (h : OwnL D' w (explode false u.k u.x) vs os) : OwnL D' w (explode false (coe1 hint u).k (coe1 hint u).x) vs os := by
  obtain ⟨uk, ux⟩ := u
  cases hint with
  | sl e =>
    cases uk with
    | nl =>
      match vs, os, h with
      | [v], [bo], h =>
        obtain ⟨rfl, _, hr⟩ := h.1
        simp only [Rep, List.cons.injEq, and_true] at hr
        subst hr
        exact ⟨⟨⟨none, 0, rfl, Nat.le_refl _, .inl rfl⟩, fun i x hx => by simp [coe1] at hx⟩, trivial⟩
      | [], _, h => exact h.elim
      | _ :: _ :: _, [_], h => exact h.2.elim
      | _ :: _, [], h => exact h.elim
      | [_], _ :: _ :: _, h => exact h.2.elim
      | _ :: _ :: _, _ :: _ :: _, h => exact h.2.elim
    | _ => exact h
  | _ => exact h

theorem ownL_coeP {D' : Nat → Prop} : ∀ (hint : Kd) {u : Val} {vs : List Value} {os : List (Option (Nat × Nat))}, OwnL D' w (explode false u.k u.x) vs os → OwnL D' w (explode false (coeP hint u).k (coeP hint u).x) vs os := by
  intro hint
  induction hint with
  | pair p q _ ihq =>
    intro u vs os h
    obtain ⟨uk, x⟩ := u
    cases uk with
    | pair c d =>
      simp only [explode] at h
      obtain ⟨v1, v2, o1, o2, rfl, rfl, h1, h2⟩ := ownL_split h
      simp only [coeP, pairV, explode]
      exact ownL_append (ownL_coe1 p (u := ⟨c, x.1⟩) h1) (ihq (u := ⟨d, x.2⟩) h2)
    | _ => exact h
  | _ => intro u vs os h; exact h

theorem sealRC_ok {TT DD : Nat → Prop} {c : Cell} {v : Value} {u : Val} {tv : Bool} (h : Inv X I st a w) (hD : ∀ b, I.D b → DD b) (hT : ∀ b, topB X.T I.D tv b → TT b) (hm : tv = false → cellMode c ≠ .tv)
    (hL : ∀ L ∈ c.labels, L < PL → ∀ o, aget st.s L = some o → ∀ b, blkOf I L b → TT b) (hc : CellRel X.T I w c v) (e : sealRC st c = some u) : u.k.isAgg = false ∧ Rep TT DD w u.k u.x [v] := by
  unfold sealRC at e
  split at e
  · rename_i tv' k x
    cases e
    refine ⟨hc.1, ?_⟩
    have hgo : (tv' = true → tv = true) → Rep TT DD w k x [v] := fun hq => hc.2.mono (fun b hb => hT b (hb.imp id fun z => ⟨hq z.1, z.2⟩)) hD
    cases htv : tv with
    | true => exact hgo fun _ => htv
    | false =>
      have hm := hm htv
      cases k with
      | int i => exact flat_rep rfl hc.2
      | bool => exact flat_rep rfl hc.2
      | str => exact flat_rep rfl hc.2
      | nl => exact flat_rep rfl hc.2
      | unit => cases hc.1
      | pair _ _ => cases hc.1
      | self => have := hc.2; simp [Rep] at this
      | _ => exact hgo fun z => by subst z; exact absurd rfl hm
  · rename_i tv' k l
    cases e
    refine ⟨rfl, hc.2.mono (fun b hb => hT b (hb.imp id fun z => ⟨?_, z.2⟩)) hD⟩
    cases htv : tv with
    | true => rfl
    | false => have hm := hm htv; have := z.1; subst this; exact absurd rfl hm
  · rename_i k L off len
    obtain ⟨hp, e1⟩ := ifB_some e
    simp only [decide_eq_true_eq] at hp
    exact sealH_ok h hc e1 hD fun o ho b hb => hL L (by simp [Cell.labels]) hp o ho b hb
  · cases e

theorem res1_ok {D' : Nat → Prop} {hint : Kd} {sv : SV} {v : Value} {u : Val} (h : Inv X I st a w) (hD : ∀ b, I.D b → D' b) (hv : VR X.T I w sv v) (e : sealX (sealRC st) hint sv = some u)
    (hdeep : modeOf sv.cells ≠ .own → ∀ b, Src I st sv.cells b → D' b) :
    ∃ os, Res1 X.T D' w (u, modeOf sv.cells) v os ∧ (∀ b ∈ blks os, Src I st sv.cells b ∧ modeOf sv.cells = .own) ∧ ((labelsOf sv.cells).Nodup → (blks os).Nodup) := by
  have hsrc : modeOf sv.cells ≠ .own → ∀ c ∈ sv.cells, ∀ L ∈ c.labels, L < PL → ∀ o, aget st.s L = some o → ∀ b, blkOf I L b → D' b :=
    fun hne c hc L hL hp o ho b hb => hdeep hne b ⟨L, labelsOf_mem hc hL, hp, ⟨o, ho⟩, hb⟩
  cases hm : modeOf sv.cells with
  | own =>
    unfold sealX at e
    split at e
    · rename_i c
      obtain ⟨u1, e1, e2⟩ := bnd_eq e
      cases e2
      obtain ⟨h1, bo, h2, h3, h4⟩ := own_cell (D' := D') h hD hv e1 (modeOf_own hm (by simp [SV.cells]))
      obtain ⟨h5, h6⟩ := ownC_coe1 hint h1 h2 h3
      have hag : (coe1 hint u1).k.isAgg = false := by
        obtain ⟨uk, ux⟩ := u1
        cases hint <;> cases uk <;> first | rfl | exact h1
      refine ⟨[bo], .inr ⟨hag, by simp only; rw [h5]; exact ⟨h6, trivial⟩⟩, fun b hb => ⟨?_, rfl⟩, fun _ => ?_⟩
      · rcases bo with _ | ⟨b', y⟩
        · cases hb
        · simp only [blks, List.mem_singleton] at hb
          subst hb
          obtain ⟨L, hL, hr⟩ := h4 b y rfl
          exact ⟨L, by simp [SV.cells, labelsOf, hL], hr⟩
      · rcases bo with _ | ⟨b', y⟩ <;> simp [blks]
    · rename_i cs
      obtain ⟨u1, e1, e2⟩ := bnd_eq e
      cases e2
      obtain ⟨vs, rfl, ha⟩ := hv
      obtain ⟨h1, os, h2, h3, h4⟩ := own_cells (D' := D') h hD ha (fun c hc => modeOf_own hm (by simpa [SV.cells] using hc)) e1
      have hag : (coeP hint u1).k.isAgg = true := by
        obtain ⟨uk, ux⟩ := u1
        cases hint <;> cases uk <;> first | rfl | exact h1
      exact ⟨os, .inl ⟨hag, vs, rfl, ownL_coeP hint h2⟩, fun b hb => ⟨h3 b hb, rfl⟩, h4⟩
    · cases e
  | deep =>
    refine ⟨[], ⟨rfl, ?_⟩, fun b hb => (by cases hb), fun _ => List.nodup_nil⟩
    refine sealX_ok (f := sealRC st) (fun c hc v u hr he => sealRC_ok (tv := false) h hD (fun b hb => ?_) (fun _ hq => ?_) (fun L hL hp o ho b hb => hsrc (by rw [hm]; simp) c hc L hL hp o ho b hb) hr he) hv e
    · rcases hb with hb | ⟨hb, _⟩
      · exact hD b hb
      · cases hb
    · have := modeOf_tv hc hq
      rw [hm] at this; cases this
  | tv =>
    refine ⟨[], ⟨rfl, ?_⟩, fun b hb => (by cases hb), fun _ => List.nodup_nil⟩
    exact sealX_ok (f := sealRC st) (fun c hc v u hr he => sealRC_ok (tv := true) h hD (fun b hb => hb.imp (hD b) id) (fun hq => by cases hq) (fun L hL hp o ho b hb => .inl (hsrc (by rw [hm]; simp) c hc L hL hp o ho b hb)) hr he) hv e

/-- the blocks that go deep in the results -/
def DeepB (I : It) (st : St) (svs : List SV) (b : Nat) : Prop := ∃ sv ∈ svs, modeOf sv.cells ≠ .own ∧ Src I st sv.cells b

theorem resL_ok {env : Env} {D' : Nat → Prop} (h : Inv X I st a w) (hD : ∀ b, I.D b → D' b) : ∀ {ts : List TypeId} {svs : List SV} {vs : List Value} {ps : List (Val × RMode)}, All2 (VR X.T I w) svs vs → retVals env st ts svs = some ps →
    (∀ b, DeepB I st svs b → D' b) → (labelsOf (allCells svs)).Nodup → ∃ oss, ResL X.T D' w ps vs oss ∧ (∀ b ∈ blks oss.flatten, ∃ sv ∈ svs, Src I st sv.cells b ∧ modeOf sv.cells = .own) ∧ (blks oss.flatten).Nodup
  | [], [], [], ps, _, e, _, _ => by cases e; exact ⟨[], trivial, fun b hb => (by cases hb), List.nodup_nil⟩
  | t :: ts, sv :: svs, v :: vs, ps, hv, e, hd, hnd => by
    obtain ⟨u, e1, e⟩ := bnd_eq e
    obtain ⟨r, e2, e⟩ := bnd_eq e
    cases e
    have hlab : ∀ a b : List Cell, labelsOf (a ++ b) = labelsOf a ++ labelsOf b := by
      intro a b
      induction a with
      | nil => rfl
      | cons c a ih => simp [labelsOf, ih]
    simp only [allCells, hlab] at hnd
    obtain ⟨n1, n2, n3⟩ := List.nodup_append.1 hnd
    obtain ⟨os, h1, h2, h3⟩ := res1_ok (D' := D') h hD hv.1 e1 (fun hne b hb => hd b ⟨sv, by simp, hne, hb⟩)
    obtain ⟨oss, h4, h5, h6⟩ := resL_ok h hD hv.2 e2 (fun b ⟨sv', hs, hr⟩ => hd b ⟨sv', by simp [hs], hr⟩) n2
    refine ⟨os :: oss, ⟨h1, h4⟩, fun b hb => ?_, ?_⟩
    · simp only [List.flatten_cons, blks_append, List.mem_append] at hb
      rcases hb with hb | hb
      · exact ⟨sv, by simp, h2 b hb⟩
      · obtain ⟨sv', hs, hr⟩ := h5 b hb
        exact ⟨sv', by simp [hs], hr⟩
    · simp only [List.flatten_cons, blks_append]
      refine List.nodup_append.2 ⟨h3 n1, h6, fun b hb b' hb' => ?_⟩
      rintro rfl
      obtain ⟨⟨L, hL, _, ⟨o, ho⟩, y, hy⟩, _⟩ := h2 b hb
      obtain ⟨sv', hs, ⟨L', hL', _, ⟨o', ho'⟩, y', hy'⟩, _⟩ := h5 b hb'
      have := h.sd L L' o o' b y y' ho ho' hy hy'
      subst this
      have hmem : ∀ (svs : List SV) (sv : SV) (L : Nat), sv ∈ svs → L ∈ labelsOf sv.cells → L ∈ labelsOf (allCells svs) := by
        intro svs
        induction svs with
        | nil => intro sv L h; cases h
        | cons s svs ih =>
          intro sv L h hL
          simp only [allCells, hlab, List.mem_append]
          rcases List.mem_cons.1 h with rfl | h
          · exact .inl hL
          · exact .inr (ih sv L h hL)
      exact n3 L hL L (hmem svs sv' L hs hL') rfl
  | [], _ :: _, _, _, _, e, _, _ => by cases e
  | _ :: _, [], _, _, _, e, _, _ => by cases e
  | _, [], _ :: _, _, h, _, _, _ => h.elim
  | _, _ :: _, [], _, h, _, _, _ => h.elim

end Go.Ev
