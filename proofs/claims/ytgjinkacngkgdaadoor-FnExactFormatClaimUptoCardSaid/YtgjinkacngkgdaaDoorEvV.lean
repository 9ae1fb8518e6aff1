/- A function's run by the evaluator is a contract. -/
import Derived.Test.YtgjinkacngkgdaaDoorEvU
namespace Go.Ev
set_option linter.unusedVariables false
set_option linter.unusedSimpArgs false

variable {X : Cx} {I : It} {st st' : St} {a : Act} {w w' : World} {T : Nat → Prop} {P : Program}

theorem untv_ok {c : Cell} {v : Value} (h : CellRel T I w c v) : CellRel T I w (untv c) v := by
  unfold untv
  split
  · exact ⟨h.1, by have := h.2; simpa [Rep] using this⟩
  · exact ⟨h.1, by have := h.2; simpa [Rep] using this⟩
  · exact ⟨h.1, by have := h.2; simpa [Rep] using this⟩
  · exact h

theorem svOf_ok {u : Val} {v : Value} (h : VRep (topB T I.D true) I.D w u v) : VR T I w (svOf true u) v := by
  have := (vrep_comp (T := T) (I := I) (w := w) (tv := true) h).mono (R' := CellRel T I w) fun c v q => q.1
  exact mkSV_ok (this.map fun c v q => untv_ok q)

theorem initPs_t : ∀ (us : List Val) (j : Nat) (st : St) (i : Nat), aget (initPs j (us.map fun _ => PMode.ro) us st).t i = (if j ≤ i ∧ i < j + us.length then (us[i - j]?).map (svOf true) else aget st.t i) ∧
    (initPs j (us.map fun _ => PMode.ro) us st).n = st.n ∧ (initPs j (us.map fun _ => PMode.ro) us st).s = st.s ∧ (initPs j (us.map fun _ => PMode.ro) us st).b = st.b
  | [], j, st, i => by
    refine ⟨?_, rfl, rfl, rfl⟩
    rw [if_neg (by simp)]
    rfl
  | u :: us, j, st, i => by
    simp only [List.map_cons, initPs]
    obtain ⟨h1, h2, h3, h4⟩ := initPs_t us (j + 1) (initP j u st .ro) i
    refine ⟨?_, by rw [h2]; rfl, by rw [h3]; rfl, by rw [h4]; rfl⟩
    rw [h1]
    simp only [List.length_cons, initP, aget_aset]
    by_cases hi : j = i
    · subst hi
      rw [if_neg (by omega), if_pos rfl, if_pos (by omega)]
      simp
    · by_cases hr : j + 1 ≤ i ∧ i < j + 1 + us.length
      · rw [if_pos hr, if_pos (by omega)]
        have : i - j = (i - (j + 1)) + 1 := by omega
        rw [this, List.getElem?_cons_succ]
      · rw [if_neg hr, if_neg hi, if_neg (by omega)]

/-- the frame at a function's start -/
theorem init_ok {D : Nat → Prop} {us : List Val} {args : List Value} {n : Nat} (hX0 : X.w0 = w) (hXD : X.D0 = D) (hdf : X.df = []) (hD : ∀ b, D b → b < w.heap.size) (hargs : All2 (VRep (topB X.T D true) D w) us args)
    (hn : args.length + n ≤ 100000) :
    Inv X ⟨D, fun _ => none, fun _ => 0, fun _ => 0⟩ (initPs 0 (us.map fun _ => PMode.ro) us (st0 (us.length + n))) { tmps := args.toArray ++ Array.replicate n undef, defers := [] } w := by
  have hl := hargs.length
  obtain ⟨_, e2, e3, e4⟩ := initPs_t us 0 (st0 (us.length + n)) 0
  refine ⟨⟨by rw [hX0]; exact Shp.refl w, fun b _ _ _ => by rw [hX0]; rfl, hD, fun b hb => by rw [hXD] at hb; exact hb, fun b hb => .inl (by rw [hXD]; exact hb)⟩, ?_, ?_, by rw [hdf], ?_, ?_, ?_, ?_, ?_, ?_⟩
  · rw [e2]; simp [st0, hl]
  · rw [e2]; simp only [st0]; omega
  · intro i v hv
    obtain ⟨e1, _⟩ := initPs_t us 0 (st0 (us.length + n)) i
    rw [e1] at hv
    split at hv
    · rename_i hi
      simp only [Nat.sub_zero] at hv
      have hlt : i < us.length := by omega
      rw [List.getElem?_eq_getElem hlt] at hv
      simp only [Option.map_some, Option.some.injEq] at hv
      subst hv
      obtain ⟨val, hval, hr⟩ := hargs.get i _ (List.getElem?_eq_getElem hlt)
      have hg : ({ tmps := args.toArray ++ Array.replicate n undef, defers := [] } : Act).tmps.getD i undef = val := by
        show (args.toArray ++ Array.replicate n undef).getD i undef = val
        rw [Array.getD_eq_getD_getElem?, Array.getElem?_append_left (by simp; omega)]
        simp [hval]
      rw [hg]
      exact svOf_ok (I := ⟨D, fun _ => none, fun _ => 0, fun _ => 0⟩) hr
    · cases hv
  · intro L o h; rw [e3] at h; cases h
  · intro L L' o o' b x x' h; rw [e3] at h; cases h
  · intro B x h; rw [e4] at h; cases h
  · intro B B' x x' h; rw [e4] at h; cases h
  · intro L o B x b y h; rw [e3] at h; cases h

theorem nodup_ok : ∀ {l : List Nat}, nodup l = true → l.Nodup
  | [], _ => List.nodup_nil
  | x :: l, h => by
    simp only [nodup, ifB_ite, List.contains_iff_mem] at h
    split at h
    · cases h
    · rename_i hx; exact List.nodup_cons.2 ⟨hx, nodup_ok h⟩

/-- the post of a contract, from a state at the end -/
theorem fin_ok {env : Env} (hP : env.P = P) {fn : Func} {us : List Val} {r : Res} {ms : List PMode} (h : Inv X I st a w') (hv : ∀ b, ¬ X.Mv b) (hm : ∀ b, ¬ X.Mm b) (e : fin env fn.results.toList fn.resultTypes.toList ms us st = some r) :
    ∃ vs D' oss, (results fn a.tmps).run P w' = .ok (oneOr vs) w' ∧ Shp X.w0 w' ∧ (∀ b, b < X.w0.heap.size → Same X.w0 w' b) ∧ (∀ b, X.D0 b → D' b) ∧ (∀ b, D' b → b < w'.heap.size) ∧
      (∀ b, D' b → X.D0 b ∨ X.w0.heap.size ≤ b) ∧ ResL X.T D' w' r.vals vs oss ∧ (blks oss.flatten).Nodup ∧ (∀ b ∈ blks oss.flatten, X.w0.heap.size ≤ b ∧ b < w'.heap.size ∧ ¬ D' b) := by
  obtain ⟨svs, e1, e2⟩ := bnd_eq e
  obtain ⟨hok, e3⟩ := ifB_some e2
  obtain ⟨ps, e4, e5⟩ := bnd_eq e3
  obtain ⟨u, e6, e7⟩ := bnd_eq e5
  cases e7
  obtain ⟨vs, hr, hvs⟩ := retSVs_ok hP h e1
  have hnd := nodup_ok hok
  obtain ⟨oss, h1, h2, h3⟩ := resL_ok (D' := fun b => I.D b ∨ DeepB I st svs b) h (fun b hb => .inl hb) hvs e4 (fun b hb => .inr hb) hnd
  have hsrc : ∀ sv b, Src I st sv b → b < w'.heap.size ∧ ¬ I.D b ∧ X.w0.heap.size ≤ b := by
    rintro sv b ⟨L, hL, hp, ⟨o, ho⟩, y, hy⟩
    obtain ⟨hl, _⟩ := h.s L o ho
    exact ⟨(hl.own b y hy).lt, (hl.own b y hy).nd, (hl.new b y hy hp).elim id fun q => (hv b q).elim⟩
  refine ⟨vs, _, oss, run_results hr, h.wld.shp, fun b hb => h.wld.frm b hb (hv b) (hm b), fun b hb => .inl (h.wld.d0 b hb), fun b hb => ?_, fun b hb => ?_, h1, h3, fun b hb => ?_⟩
  · rcases hb with hb | ⟨sv, _, _, hb⟩
    · exact h.wld.dlt b hb
    · exact (hsrc _ b hb).1
  · rcases hb with hb | ⟨sv, _, _, hb⟩
    · rcases h.wld.dn b hb with q | q | q
      · exact .inl q
      · exact .inr q
      · exact (hv b q).elim
    · exact .inr (hsrc _ b hb).2.2
  · obtain ⟨sv, hs, hb', hm'⟩ := h2 b hb
    obtain ⟨p1, p2, p3⟩ := hsrc _ b hb'
    refine ⟨p3, p1, ?_⟩
    rintro (q | ⟨sv', hs', hm2, hb2⟩)
    · exact p2 q
    · obtain ⟨L, hL, hp, ⟨o, ho⟩, y, hy⟩ := hb'
      obtain ⟨L', hL', hp', ⟨o', ho'⟩, y', hy'⟩ := hb2
      have hLL := h.sd L L' o o' b y y' ho ho' hy hy'
      subst hLL
      have hlab : ∀ a b : List Cell, labelsOf (a ++ b) = labelsOf a ++ labelsOf b := by
        intro a b
        induction a with
        | nil => rfl
        | cons c a ih => simp [labelsOf, ih]
      have hmem : ∀ (svs : List SV) (sv : SV) (L : Nat), sv ∈ svs → L ∈ labelsOf sv.cells → L ∈ labelsOf (allCells svs) := by
        intro svs
        induction svs with
        | nil => intro sv L h; cases h
        | cons s svs ih =>
          intro sv L h hL
          simp only [allCells, hlab, List.mem_append]
          rcases List.mem_cons.1 h with rfl | h
          · exact .inl hL
          · exact .inr (ih sv L h hL)
      -- the same label in two results: they are one result
      have huniq : ∀ (svs : List SV), (labelsOf (allCells svs)).Nodup → ∀ sv ∈ svs, ∀ sv' ∈ svs, L ∈ labelsOf sv.cells → L ∈ labelsOf sv'.cells → sv = sv' := by
        intro svs
        induction svs with
        | nil => intro _ sv h; cases h
        | cons s svs ih =>
          intro hnd sv h1 sv' h2 hl1 hl2
          simp only [allCells, hlab] at hnd
          obtain ⟨n1, n2, n3⟩ := List.nodup_append.1 hnd
          rcases List.mem_cons.1 h1 with g1 | g1 <;> rcases List.mem_cons.1 h2 with g2 | g2
          · rw [g1, g2]
          · subst g1; exact (n3 L hl1 L (hmem svs sv' L g2 hl2) rfl).elim
          · subst g2; exact (n3 L hl2 L (hmem svs sv L g1 hl1) rfl).elim
          · exact ih n2 sv g1 sv' g2 hl1 hl2
      have := huniq svs hnd sv hs sv' hs' hL hL'
      subst this
      exact hm2 hm'

theorem draws_ok {fn : Func} {c : Code} (hb : fn.body = some c) : drawsOk (draws fn) c = true := by
  have nil : ∀ c, drawsOk [] c = true := by
    intro c
    induction c with
    | region id ops draw => cases draw <;> simp [drawsOk, aget]
    | seq a b iha ihb => simp [drawsOk, iha, ihb]
    | cond x a b iha ihb => simp [drawsOk, iha, ihb]
    | block id c ih => simpa [drawsOk] using ih
    | loop c ih => simpa [drawsOk] using ih
    | _ => rfl
  unfold draws
  rw [hb]
  simp only
  split
  · assumption
  · exact nil c

/-- a function's run is a contract, if the table of callees holds -/
theorem evFn_con {env : Env} (hP : env.P = P) (hm : P.follows .mixedOrders = true) (hmd : env.md = []) {G : World → Prop} (hGs : Steady G) {F : Sems} (hF : SemsOk P G F) {f : FuncId} {fn : Func} {us : List Val} {r : Res} (hf : P.funcs[f]? = some fn) (hname : (fn.name == "runtime.NumGoroutine") = false)
    (e : evFn env F f fn us = some r) : Con P G f us r := by
  unfold evFn at e
  cases hb : fn.body with
  | none => rw [hb] at e; cases e
  | some c =>
    rw [hb] at e
    obtain ⟨hc, e1⟩ := ifB_some e
    obtain ⟨p, e2, e3⟩ := bnd_eq e1
    simp only [Bool.and_eq_true, decide_eq_true_eq] at hc
    rw [mds_ro hmd] at e2 e3
    refine ⟨⟨fn, hf, by rw [hb]; rfl, hname⟩, fun w T D args hG hT hD hargs => ?_⟩
    let X : Cx := ⟨w, T, D, fun _ => False, fun _ => False, fun _ => none, fun _ => 0, [], fun b hb => ⟨hT b hb, id, id⟩, fun b hb => ⟨hD b hb, id, id⟩, fun b hb => hb.elim, fun b hb => hb.elim⟩
    have hl := hargs.length
    refine calls_of_wp hf hb ?_
    have hsz : args.toArray.size = us.length := by simp [hl]
    have hi := init_ok (X := X) (w := w) (D := D) (us := us) (args := args) (n := fn.ntmps - us.length) rfl rfl rfl hD hargs (by omega)
    rw [hsz]
    refine evD_ok (X := X) hP hm hmd (callsOk hmd hGs hG hF (fun _ => id) fun _ => id) (callsOkD hmd hGs hG hF (fun _ => id) fun _ => id) c 0 (draws_ok hb) hi e2 ?_
    obtain ⟨ex, s⟩ := p
    intro a' w' I' hi'
    cases ex with
    | exit i => cases e3
    | normal =>
      obtain ⟨vs, D', oss, h1, h2⟩ := fin_ok (X := X) hP hi' (fun _ => id) (fun _ => id) e3
      exact ⟨hi'.df, _, h1, vs, D', oss, rfl, h2⟩
    | ret =>
      obtain ⟨vs, D', oss, h1, h2⟩ := fin_ok (X := X) hP hi' (fun _ => id) (fun _ => id) e3
      exact ⟨hi'.df, _, h1, vs, D', oss, rfl, h2⟩

end Go.Ev
