/- Calls by contracts. -/
import Derived.Test.YtgjinkacngkgdaaDoorEvR
namespace Go.Ev
set_option linter.unusedVariables false
set_option linter.unusedSimpArgs false

variable {X : Cx} {I : It} {st st' : St} {a : Act} {w w' : World} {T : Nat → Prop} {P : Program}

theorem Inv.call (h : Inv X I st a w) {D' : Nat → Prop} (hs : Shp w w') (hk : ∀ b, b < w.heap.size → Same w w' b) (hD : ∀ b, I.D b → D' b) (hlt : ∀ b, D' b → b < w'.heap.size)
    (hn : ∀ b, D' b → I.D b ∨ w.heap.size ≤ b) : Inv X ⟨D', I.β, I.ln, I.γ⟩ st a w' := by
  have h1 := h.alloc hs hk
  have hsz := h.wld.shp.1
  have hc : ∀ c v, CellRel X.T I w' c v → CellRel X.T ⟨D', I.β, I.ln, I.γ⟩ w' c v := fun c v hc =>
    hc.tr (fun b hb hl => ⟨hD b hb, hl, fun _ _ x => x⟩) (fun b _ hl => ⟨hl, fun _ _ x => x⟩) (Shp.refl _) (fun _ _ => ⟨rfl, rfl⟩) (fun _ _ => rfl)
  have hown : ∀ b, OwnB X I.D w b → OwnB X D' w' b := fun b hb => ⟨Nat.lt_of_lt_of_le hb.lt hs.1, fun hd => (hn b hd).elim hb.nd fun q => by have := hb.lt; omega, hb.nt⟩
  refine ⟨⟨h1.wld.shp, h1.wld.frm, hlt, fun b hb => hD b (h1.wld.d0 b hb), fun b hb => (hn b hb).elim (h1.wld.dn b) fun q => .inr (.inl (by omega))⟩, h1.n, h1.nb, h1.df, fun i v e => (h1.t i v e).mono hc, ?_, h1.sd, ?_, h1.bd, h1.sb⟩
  · intro L o e
    obtain ⟨p1, p2, p3⟩ := h1.s L o e
    obtain ⟨q1, _, _⟩ := h.s L o e
    exact ⟨⟨fun b y q => hown b (q1.own b y q), p1.new, p1.old, p1.fix⟩, p2.tr (fun b hb hl => ⟨hD b hb, hl, fun _ _ x => x⟩) (fun b y q => ⟨(p1.own b y q).lt, fun _ _ x => x⟩), p3⟩
  · intro B x e
    obtain ⟨p1, vs, ha, hr⟩ := h1.b B x e
    obtain ⟨q1, _⟩ := h.b B x e
    exact ⟨⟨hown _ q1.own, p1.new, p1.old, p1.fix⟩, vs, ha.mono fun c v _ _ => hc c v, hr⟩

/-- a block that nobody of ours has -/
structure Fr (X : Cx) (I : It) (st : St) (w : World) (b : Nat) : Prop where
  own : OwnB X I.D w b
  new : X.w0.heap.size ≤ b
  s : ∀ l o y, aget st.s l = some o → I.β l ≠ some (b, y)
  b : ∀ B x, aget st.b B = some x → I.γ B ≠ b

theorem blks_cons (bo : Option (Nat × Nat)) (os : List (Option (Nat × Nat))) : blks (bo :: os) = (match bo with | none => [] | some (b, _) => [b]) ++ blks os := by
  rcases bo with _ | ⟨b, o⟩ <;> rfl

theorem ownObjs_ok : ∀ (cs : List Cell) (vs : List Value) (os : List (Option (Nat × Nat))) (base : Nat) {I : It} {st : St}, Inv X I st a w → OwnL I.D w cs vs os → (blks os).Nodup → (∀ b ∈ blks os, Fr X I st w b) → base + cs.length ≤ PL →
    ∃ I', Inv X I' (ownObjs base cs st) a w ∧ I'.D = I.D ∧ I'.γ = I.γ ∧ (∀ l, (l < base ∨ base + cs.length ≤ l) → I'.β l = I.β l ∧ I'.ln l = I.ln l) ∧
      All2 (fun c v => CellRel X.T I' w c v ∧ ∀ L ∈ c.labels, base ≤ L ∧ L < base + cs.length) (ownify base cs) vs ∧ (∀ b, Fr X I st w b → b ∉ blks os → Fr X I' (ownObjs base cs st) w b) ∧ (ownObjs base cs st).n = st.n
  | [], [], [], base, I, st, h, _, _, _, _ => ⟨I, h, rfl, rfl, fun _ _ => ⟨rfl, rfl⟩, trivial, fun _ q _ => q, rfl⟩
  | c :: cs, v :: vs, bo :: os, base, I, st, h, ho, hnd, hfr, hpl => by
    obtain ⟨hc, ho⟩ := ho
    simp only [List.length_cons] at hpl
    have hnd' : (blks os).Nodup := by
      rw [blks_cons] at hnd
      exact (List.nodup_append.1 hnd).2.1
    cases c with
    | val tv k x =>
      by_cases hk : ∃ e, k = .sl e
      · obtain ⟨e, rfl⟩ := hk
        obtain ⟨⟨A, c, rfl, hlc, hA⟩, hobj⟩ := hc
        have hfr0 : ∀ b y, bo = some (b, y) → Fr X I st w b := fun b y q => hfr b (by rw [blks_cons, q]; simp)
        have h1 := h.newObj (L := base) (o := ⟨e, x⟩) bo ⟨fun b y q => (hfr0 b y q).own, fun b y q _ => .inl (hfr0 b y q).new, fun b y q hp => absurd hp (by omega), fun hp => absurd hp (by omega)⟩ hobj
          (fun l o' b y y' hne ho' q q' => (hfr0 b y' q').s l o' y ho' q) (fun B x b y hx q => (hfr0 b y q).b B x hx)
        have hfr1 : ∀ b, Fr X I st w b → (∀ y, bo ≠ some (b, y)) → Fr X (I.at base bo (List.length x)) (st.newObj base ⟨e, x⟩) w b := by
          intro b hb hne
          refine ⟨hb.own, hb.new, fun l o y ho' q => ?_, fun B x hx => ?_⟩
          · by_cases hl : l = base
            · subst hl
              simp only [It.at, setFn_same] at q
              exact hne y q
            · simp only [It.at, setFn_other _ _ _ _ hl] at q
              simp only [St.newObj, St.setS, aget_aset, aget_adel] at ho'
              rw [if_neg fun q => hl q.symm, if_neg fun q => hl q.symm] at ho'
              exact hb.s l o y ho' q
          · simp only [St.newObj, St.setS] at hx
            rw [St.kill_b] at hx
            cases hq : aget st.b B with
            | none => rw [hq] at hx; cases hx
            | some x0 => exact hb.b B x0 hq
        obtain ⟨I', i1, i2, i3, i4, i5, i6, i7⟩ := ownObjs_ok cs vs os (base + 1) h1 ho hnd' (fun b hb => hfr1 b (hfr b (by rw [blks_cons]; simp [hb])) (by
          rintro y rfl
          rw [blks_cons] at hnd
          simp only [List.singleton_append, List.nodup_cons] at hnd
          exact hnd.1 hb)) (by omega)
        refine ⟨I', i1, i2, i3, fun l hl => ?_, ⟨⟨?_, fun L hL => ?_⟩, i5.mono fun c v _ _ q => ⟨q.1, fun L hL => ?_⟩⟩, fun b hb hnb => ?_, i7⟩
        · obtain ⟨j1, j2⟩ := i4 l (by simp only [List.length_cons] at hl; omega)
          have hne : l ≠ base := by simp only [List.length_cons] at hl; omega
          rw [j1, j2]
          exact ⟨setFn_other _ _ _ _ hne, setFn_other _ _ _ _ hne⟩
        · obtain ⟨j1, j2⟩ := i4 base (.inl (by omega))
          refine ⟨A, c, rfl, hlc, ?_, ?_⟩
          · rw [j2]; simp [It.at, setFn_same]
          · refine hA.imp id fun ⟨b, ba, e1, e2, e3⟩ => ⟨b, ba, ?_, by simpa using e2, by simpa using e3⟩
            rw [j1]; simp only [It.at, setFn_same]; exact e1
        · simp only [Cell.labels, List.mem_singleton] at hL; subst hL; simp only [List.length_cons]; omega
        · have := q.2 L hL; simp only [List.length_cons]; omega
        · rw [blks_cons] at hnb
          simp only [List.mem_append, not_or] at hnb
          exact i6 b (hfr1 b hb (by rintro y rfl; simp at hnb)) hnb.2
      · have hc' : bo = none ∧ k.isAgg = false ∧ Rep I.D I.D w k x [v] := by
          cases k with
          | sl e => exact absurd ⟨e, rfl⟩ hk
          | _ => exact hc
        obtain ⟨rfl, hag, hrep⟩ := hc'
        have eo : ownObjs base (.val tv k x :: cs) st = ownObjs (base + 1) cs st := by
          cases k with
          | sl e => exact absurd ⟨e, rfl⟩ hk
          | _ => rfl
        have ei : ownify base (.val tv k x :: cs) = .val tv k x :: ownify (base + 1) cs := by
          cases k with
          | sl e => exact absurd ⟨e, rfl⟩ hk
          | _ => rfl
        rw [eo, ei]
        obtain ⟨I', i1, i2, i3, i4, i5, i6, i7⟩ := ownObjs_ok cs vs os (base + 1) h ho hnd' (fun b hb => hfr b (by rw [blks_cons]; simp [hb])) (by omega)
        refine ⟨I', i1, i2, i3, fun l hl => i4 l (by simp only [List.length_cons] at hl; omega), ⟨⟨⟨hag, ?_⟩, fun L hL => by cases hL⟩, i5.mono fun c v _ _ q => ⟨q.1, fun L hL => ?_⟩⟩, fun b hb hnb => i6 b hb (by rw [blks_cons] at hnb; simpa using hnb), i7⟩
        · rw [i2]; exact hrep.mono (fun b hb => .inl hb) fun b hb => hb
        · have := q.2 L hL; simp only [List.length_cons]; omega
    | _ => exact hc.elim
  | [], _ :: _, _, _, _, _, _, h, _, _, _ => h.elim
  | [], [], _ :: _, _, _, _, _, h, _, _, _ => h.elim
  | _ :: _, [], _, _, _, _, _, h, _, _, _ => h.elim
  | _ :: _, _ :: _, [], _, _, _, _, h, _, _, _ => h.elim

theorem ownify_length : ∀ (cs : List Cell) (base : Nat), (ownify base cs).length = cs.length
  | [], _ => rfl
  | c :: cs, base => by
    cases c with
    | val tv k x => cases k <;> simp [ownify, ownify_length cs]
    | _ => simp [ownify, ownify_length cs]

theorem explode_labels {tv : Bool} : ∀ {k : Kd} {x : k.T} {c : Cell}, c ∈ explode tv k x → c.labels = [] ∧ c.boxes = [] := by
  intro k
  induction k with
  | pair a b iha ihb => intro x c h; rcases List.mem_append.1 h with h | h; exact iha h; exact ihb h
  | unit => intro x c h; cases h
  | _ => intro x c h; simp only [explode, List.mem_singleton] at h; subst h; exact ⟨rfl, rfl⟩

theorem vrep_comp {tv : Bool} {u : Val} {v : Value} (h : VRep (topB T I.D tv) I.D w u v) : CompP (fun c v => CellRel T I w c v ∧ c.labels = []) (u.k.isAgg, explode tv u.k u.x) v := by
  rcases h with ⟨h1, vs, rfl, hr⟩ | ⟨h1, hr⟩
  · exact .inl ⟨h1, vs, rfl, (explode_ok hr).mono fun c v hc _ q => ⟨q, (explode_labels hc).1⟩⟩
  · refine .inr ⟨h1, ?_⟩
    have := (explode_ok hr).mono (R' := fun c v => CellRel T I w c v ∧ c.labels = []) fun c v hc _ q => ⟨q, (explode_labels hc).1⟩
    match hcs : explode tv u.k u.x, this with
    | [c], q => exact ⟨c, rfl, q.1⟩
    | [], q => exact q.elim
    | _ :: _ :: _, q => exact q.2.elim

theorem resObjs_ok {T' : Nat → Prop} : ∀ (ps : List (Val × RMode)) (vs : List Value) (oss : List (List (Option (Nat × Nat)))) (base : Nat) {I : It} {st : St}, Inv X I st a w → ResL T' I.D w ps vs oss → (blks oss.flatten).Nodup →
    (∀ b ∈ blks oss.flatten, Fr X I st w b) → okSizes ps = true → base + 100 * ps.length ≤ PL → (hasTv ps = true → ∀ b, topB T' I.D true b → topB X.T I.D true b) →
    ∃ I', Inv X I' (resObjs base ps st) a w ∧ I'.D = I.D ∧ I'.γ = I.γ ∧ (∀ l, (l < base ∨ base + 100 * ps.length ≤ l) → I'.β l = I.β l ∧ I'.ln l = I.ln l) ∧ All2 (CompP (CellRel X.T I' w)) (resComps base ps) vs ∧ (resObjs base ps st).n = st.n
  | [], [], [], base, I, st, h, _, _, _, _, _, _ => ⟨I, h, rfl, rfl, fun _ _ => ⟨rfl, rfl⟩, trivial, rfl⟩
  | p :: ps, v :: vs, os :: oss, base, I, st, h, hr, hnd, hfr, hsz, hpl, htv => by
    obtain ⟨hr1, hr⟩ := hr
    simp only [okSizes, Bool.and_eq_true, decide_eq_true_eq] at hsz
    simp only [List.length_cons] at hpl
    simp only [List.flatten_cons, blks_append] at hnd hfr
    obtain ⟨n1, n2, n3⟩ := List.nodup_append.1 hnd
    -- the first component
    have key : ∃ I1, Inv X I1 (resO base p.1 st p.2) a w ∧ I1.D = I.D ∧ I1.γ = I.γ ∧ (∀ l, (l < base ∨ base + 100 ≤ l) → I1.β l = I.β l ∧ I1.ln l = I.ln l) ∧
        CompP (fun c v => CellRel X.T I1 w c v ∧ ∀ L ∈ c.labels, base ≤ L ∧ L < base + 100) (p.1.k.isAgg, resC base p.1 p.2) v ∧ (∀ b, Fr X I st w b → b ∉ blks os → Fr X I1 (resO base p.1 st p.2) w b) ∧ (resO base p.1 st p.2).n = st.n := by
      obtain ⟨u, m⟩ := p
      cases m with
      | own =>
        simp only [Res1, OwnV] at hr1
        have hel := explode_length false u.k u.x
        have hs1 : u.k.size ≤ 100 := hsz.1
        have go : ∀ vs', OwnL I.D w (explode false u.k u.x) vs' os → _ := fun vs' ho => ownObjs_ok (X := X) (a := a) (explode false u.k u.x) vs' os base h ho n1 (fun b hb => hfr b (by simp [hb])) (by omega)
        rcases hr1 with ⟨hag, vs', rfl, ho⟩ | ⟨hag, ho⟩
        · obtain ⟨I', i1, i2, i3, i4, i5, i6, i7⟩ := go vs' ho
          exact ⟨I', i1, i2, i3, fun l hl => i4 l (by omega), .inl ⟨hag, vs', rfl, i5.mono fun c v _ _ q => ⟨q.1, fun L hL => by have := q.2 L hL; omega⟩⟩, i6, i7⟩
        · obtain ⟨I', i1, i2, i3, i4, i5, i6, i7⟩ := go [v] ho
          refine ⟨I', i1, i2, i3, fun l hl => i4 l (by omega), .inr ⟨hag, ?_⟩, i6, i7⟩
          simp only [resC]
          match hcs : ownify base (explode false u.k u.x), i5 with
          | [c], q => exact ⟨c, rfl, q.1.1, fun L hL => by have := q.1.2 L hL; omega⟩
          | [], q => exact q.elim
          | _ :: _ :: _, q => exact q.2.elim
      | deep =>
        obtain ⟨rfl, hv⟩ := hr1
        refine ⟨I, h, rfl, rfl, fun _ _ => ⟨rfl, rfl⟩, ?_, fun b hb _ => hb, rfl⟩
        have := vrep_comp (T := X.T) (I := I) (w := w) (tv := false) (hv.mono (fun b hb => .inl hb) fun b hb => hb)
        exact this.mono fun c v q => ⟨q.1, fun L hL => by rw [q.2] at hL; cases hL⟩
      | tv =>
        obtain ⟨rfl, hv⟩ := hr1
        refine ⟨I, h, rfl, rfl, fun _ _ => ⟨rfl, rfl⟩, ?_, fun b hb _ => hb, rfl⟩
        have := vrep_comp (T := X.T) (I := I) (w := w) (tv := true) (hv.mono (htv (by simp [hasTv, ifB])) fun b hb => hb)
        exact this.mono fun c v q => ⟨q.1, fun L hL => by rw [q.2] at hL; cases hL⟩
    obtain ⟨I1, i1, i2, i3, i4, i5, i6, i7⟩ := key
    have htv' : hasTv ps = true → ∀ b, topB T' I1.D true b → topB X.T I1.D true b := by
      intro ht
      rw [i2]
      exact htv (by simp only [hasTv, ifB_ite]; split <;> first | rfl | exact ht)
    obtain ⟨I2, j1, j2, j3, j4, j5, j6⟩ := resObjs_ok ps vs oss (base + 100) i1 (by rw [i2]; exact hr) n2 (fun b hb => i6 b (hfr b (by simp [hb])) fun hb' => n3 b hb' b hb rfl) hsz.2 (by omega) htv'
    refine ⟨I2, j1, by rw [j2, i2], by rw [j3, i3], fun l hl => ?_, ⟨i5.mono fun c v q => ?_, j5⟩, ?_⟩
    · simp only [List.length_cons] at hl
      obtain ⟨e1, e2⟩ := j4 l (by omega)
      obtain ⟨e3, e4⟩ := i4 l (by omega)
      exact ⟨by rw [e1, e3], by rw [e2, e4]⟩
    · exact q.1.tr (fun b hb hl => ⟨by rw [j2]; exact hb, hl, fun _ _ x => x⟩) (fun b _ hl => ⟨hl, fun _ _ x => x⟩) (Shp.refl _) (fun L hL => j4 L (by have := q.2 L hL; omega)) (fun B _ => by rw [j3])
    · show (resObjs (base + 100) ps (resO base p.1 st p.2)).n = st.n
      rw [j6, i7]
  | [], _ :: _, _, _, _, _, _, h, _, _, _, _, _ => h.elim
  | [], [], _ :: _, _, _, _, _, h, _, _, _, _, _ => h.elim
  | _ :: _, [], _, _, _, _, _, h, _, _, _, _, _ => h.elim
  | _ :: _, _ :: _, [], _, _, _, _, h, _, _, _, _, _ => h.elim

theorem resSV_ok {R : Cell → Value → Prop} {l : List (Bool × List Cell)} {vs : List Value} (h : All2 (CompP R) l vs) : SVP R (resSV l) (oneOr vs) := by
  match l, vs, h with
  | [], [], _ => exact ⟨[], rfl, trivial⟩
  | [p], [v], h => exact mkSV_ok h.1
  | p :: q :: l, v :: u :: vs, h => exact ⟨v :: u :: vs, rfl, h⟩
  | [_], _ :: _ :: _, h => exact h.2.elim
  | _ :: _ :: _, [_], h => exact h.2.elim

theorem setRes_ok {T' : Nat → Prop} {d : Option Nat} {ps : List (Val × RMode)} {vs : List Value} {oss : List (List (Option (Nat × Nat)))} (h : Inv X I st a w) (hr : ResL T' I.D w ps vs oss) (hnd : (blks oss.flatten).Nodup)
    (hfr : ∀ b ∈ blks oss.flatten, Fr X I st w b) (htv : hasTv ps = true → ∀ b, topB T' I.D true b → topB X.T I.D true b) (e : setRes st ps d = some st') : ∃ I', Inv X I' st' (a.put d (oneOr vs)) w := by
  cases d with
  | none => cases e; exact ⟨I, h⟩
  | some d =>
    obtain ⟨hc, e1⟩ := ifB_some e
    simp only [Bool.and_eq_true, decide_eq_true_eq] at hc
    have hds := (setT_some e1 d rfl).1
    have hn : (resObjs (d * 1000) ps st).n = st.n := by
      have : ∀ (ps : List (Val × RMode)) (base : Nat) (s : St), (resObjs base ps s).n = s.n := by
        intro ps
        induction ps with
        | nil => intro base s; rfl
        | cons p ps ih =>
          intro base s
          simp only [resObjs]
          rw [ih]
          cases p.2 with
          | own =>
            simp only [resO]
            have : ∀ (cs : List Cell) (base : Nat) (s : St), (ownObjs base cs s).n = s.n := by
              intro cs
              induction cs with
              | nil => intro base s; rfl
              | cons c cs ih =>
                intro base s
                cases c with
                | val tv k x => cases k <;> simp only [ownObjs] <;> rw [ih] <;> rfl
                | _ => simp only [ownObjs]; rw [ih]
            exact this _ _ _
          | _ => rfl
      exact this ps _ st
    rw [hn] at hds
    have hb := h.nb
    obtain ⟨I', i1, i2, i3, i4, i5, _⟩ := resObjs_ok ps vs oss (d * 1000) h hr hnd hfr hc.1 (by unfold PL; omega) htv
    exact ⟨I', i1.setT (resSV_ok i5) e1⟩

/-! the call -/
theorem backs_ro : ∀ (args : List SV) (us : List (Option Val)) (st st1 : St), backs (args.map fun _ => PMode.ro) args us st = some st1 → st1 = st
  | [], [], st, st1, e => by cases e; rfl
  | [], _ :: _, st, st1, e => by cases e
  | v :: vs, [], st, st1, e => by cases e
  | v :: vs, u :: us, st, st1, e => by
    simp only [List.map_cons, backs] at e
    obtain ⟨s, e1, e2⟩ := bnd_eq e
    cases u with
    | none =>
      simp only [back] at e1
      cases e1
      exact backs_ro vs us st st1 e2
    | some u => simp [back] at e1

theorem sealArgs_ro : ∀ (args : List SV) (hs : List Kd) (us : List Val), sealArgs st (args.map fun _ => PMode.ro) hs args = some us → All2 (fun v u => ∃ hint, sealSV st hint v = some u) args us
  | [], _, us, e => by cases e; trivial
  | v :: vs, [], us, e => by cases e
  | v :: vs, h :: hs, us, e => by
    simp only [List.map_cons, sealArgs, sealArg] at e
    obtain ⟨u, e1, e2⟩ := bnd_eq e
    obtain ⟨us', e3, e4⟩ := bnd_eq e2
    cases e4
    exact ⟨⟨h, e1⟩, sealArgs_ro vs hs us' e3⟩

theorem All2.zip {α β γ : Type} {R : α → β → Prop} {S : α → γ → Prop} {Q : γ → β → Prop} : ∀ {l : List α} {r : List β} {m : List γ}, All2 R l r → All2 S l m → (∀ a b c, a ∈ l → R a b → S a c → Q c b) → All2 Q m r
  | [], [], [], _, _, _ => trivial
  | a :: l, b :: r, c :: m, h1, h2, h => ⟨h a b c (by simp) h1.1 h2.1, All2.zip h1.2 h2.2 fun a b c ha => h a b c (by simp [ha])⟩
  | [], _ :: _, _, h1, _, _ => h1.elim
  | _ :: _, [], _, h1, _, _ => h1.elim
  | [], [], _ :: _, _, h2, _ => h2.elim
  | _ :: _, _ :: _, [], _, h2, _ => h2.elim

theorem plainCs_seal {TT : Nat → Prop} (h : Inv X I st a w) (hT : ∀ b, topB X.T I.D true b → TT b) : ∀ {cs : List Cell}, plainCs cs = true → (∀ L ∈ labelsOf cs, ∀ o, aget st.s L = some o → ∀ b, blkOf I L b → TT b) →
    ∀ n, ∀ c ∈ cs, ∀ v u, CellRel X.T I w c v → sealC st n c = some u → u.k.isAgg = false ∧ Rep TT I.D w u.k u.x [v]
  | [], _, _, _, c, hc, _, _, _, _ => by cases hc
  | c0 :: cs, hp, hL, n, c, hc, v, u, hr, e => by
    rcases List.mem_cons.1 hc with rfl | hc
    · cases c with
      | val tv k x => cases n <;> (simp only [sealC] at e; cases e; exact ⟨hr.1, hr.2.mono (fun b hb => hT b (hb.imp id fun q => ⟨rfl, q.2⟩)) fun _ q => q⟩)
      | xsl tv k l => cases n <;> (simp only [sealC] at e; cases e; exact ⟨rfl, hr.2.mono (fun b hb => hT b (hb.imp id fun q => ⟨rfl, q.2⟩)) fun _ q => q⟩)
      | hdr k L off len => cases n <;> (simp only [sealC] at e; exact sealH_ok h hr e (fun _ q => q) fun o ho b hb => hL L (by simp [labelsOf, Cell.labels]) o ho b hb)
      | clo f caps =>
        cases caps with
        | cons B r => cases hp
        | nil =>
          cases n with
          | zero => simp [sealC] at e
          | succ n =>
            have e2 : u = cloV f ⟨.unit, ()⟩ := by cases n <;> (simp only [sealC, sealCaps, bnd_some, Option.some.injEq] at e; exact e.symm)
            subst e2
            have hv : v = .func (.func f) #[] #[] := hr
            subst hv
            refine ⟨rfl, ?_⟩
            simp only [cloV, Rep]
            exact ⟨[], rfl, by simp [RepCaps]⟩
      | _ => cases hp
    · refine plainCs_seal h hT (cs := cs) ?_ (fun L hl => hL L (by simp [labelsOf, hl])) n c hc v u hr e
      cases c0 with
      | clo f caps => cases caps with
        | nil => exact hp
        | cons B r => cases hp
      | val tv k x => exact hp
      | xsl tv e l => exact hp
      | hdr k L off len => exact hp
      | _ => cases hp

theorem plainArgs_mem : ∀ {args : List SV}, plainArgs args = true → ∀ v ∈ args, plainCs v.cells = true
  | v :: vs, h, x, hx => by
    simp only [plainArgs, Bool.and_eq_true] at h
    rcases List.mem_cons.1 hx with rfl | hx
    · exact h.1
    · exact plainArgs_mem h.2 x hx

theorem argLabels_mem : ∀ {args : List SV} {v : SV} {L : Nat}, v ∈ args → L ∈ labelsOf v.cells → L ∈ argLabels args
  | v0 :: vs, v, L, h, hL => by
    simp only [argLabels, List.mem_append]
    rcases List.mem_cons.1 h with rfl | h
    · exact .inl hL
    · exact .inr (argLabels_mem h hL)

theorem ObjRel.monoD {D D' : Nat → Prop} {bo : Option (Nat × Nat)} {o : SObj} (h : ObjRel D w bo o) (hD : ∀ b, D b → D' b) : ObjRel D' w bo o := by
  intro i x hx
  obtain ⟨b, base, ecs, hb, hl, hr, hc⟩ := h i x hx
  exact ⟨b, base, ecs, hb, hl, hr.mono hD hD, hc⟩

theorem mapC_b {f : Cell → Cell} {B : Nat} {x : Bool × List Cell} (h : aget (amap (mapBox f) st.b) B = some x) : ∃ y, aget st.b B = some y := by
  rw [aget_amap] at h
  cases hq : aget st.b B with
  | none => rw [hq] at h; cases h
  | some y => exact ⟨y, rfl⟩

theorem freezes_b : ∀ (Ls : List Nat) (st : St) (B : Nat) (x : Bool × List Cell), aget (freezes Ls st).b B = some x → ∃ y, aget st.b B = some y
  | [], _, _, x, h => ⟨x, h⟩
  | L :: Ls, st, B, x, h => by
    obtain ⟨y, hy⟩ := freezes_b Ls (st.freeze L) B x h
    unfold St.freeze at hy
    rw [ifB_ite] at hy
    split at hy
    · rw [St.kill_b] at hy
      cases hq : aget st.b B with
      | none => rw [hq] at hy; cases hy
      | some z => exact ⟨z, rfl⟩
    · cases ho : aget st.s L with
      | none => rw [ho] at hy; exact ⟨y, hy⟩
      | some o => rw [ho] at hy; exact mapC_b hy

/-- the caller's labels are those of no parameter that is written -/
def NoPL (st : St) : Prop := ∀ L o, aget st.s L = some o → L < PL

theorem call_ok {env : Env} (hmd : env.md = []) {G : World → Prop} (hGs : Steady G) (hG : G X.w0) {F : Sems} (hF : SemsOk P G F) {o : Oper} {g : FuncId} {hs : List Kd} {args : List SV} {caps : List Val} {vs cvs : List Value} {capv : Array Value}
    (h : Inv X I st a w) (hmv : ∀ b, ¬ X.Mv b) (hm : ∀ b, ¬ X.Mm b) (hv : All2 (VR X.T I w) args vs) (hcv : capv.toList = cvs)
    (hcap : ∀ TT : Nat → Prop, (∀ b, topB X.T I.D true b → TT b) → (caps = [] ∨ ((∀ L o, aget st.s L = some o → ∀ b, blkOf I L b → TT b) ∧ (∀ B x, aget st.b B = some x → TT (I.γ B)))) → All2 (VRep TT I.D w) caps cvs)
    (hrun : Enterable P g → (execOp a.eval o).run P w = .ok (.enter g (vs ++ cvs).toArray) w) (e : evCallF env F st o.dst g (mds env g args) hs args caps = some st') : OpWp P X o a w st' := by
  have hGw : G w := hGs _ _ hG fun b hb => h.wld.frm b hb (hmv b) (hm b)
  rw [mds_ro hmd] at e
  unfold evCallF at e
  obtain ⟨_, e1⟩ := ifB_some e
  obtain ⟨us, hus, e2⟩ := bnd_eq e1
  obtain ⟨r, hr, e3⟩ := bnd_eq e2
  obtain ⟨st1, hb, e4⟩ := bnd_eq e3
  obtain ⟨htv, e5⟩ := ifB_some e4
  have := backs_ro _ _ _ _ hb
  subst this
  have hsl := sealArgs_ro _ _ _ hus
  have hc := hF g _ r hr
  have hlt0 : ∀ b, I.D b → b < w.heap.size := h.wld.dlt
  have hXT : ∀ b, X.T b → b < w.heap.size := fun b hb => Nat.lt_of_lt_of_le (X.hT b hb).1 h.wld.shp.1
  have hpl : ∀ L ob, aget st1.s L = some ob → ∀ b, blkOf I L b → L < PL := by
    intro L ob hL b ⟨y, hy⟩
    rcases Nat.lt_or_ge L PL with q | q
    · exact q
    · exact (hm b ((h.s L ob hL).1.old b y hy q)).elim
  -- the top-level blocks that the callee may look into
  cases htvb : hasTv r.vals with
  | false =>
    rw [htvb, ifB_false] at e5
    let TT : Nat → Prop := fun b => topB X.T I.D true b ∨ (∃ L ob, aget st1.s L = some ob ∧ blkOf I L b) ∨ (∃ B x, aget st1.b B = some x ∧ b = I.γ B)
    have hTT : ∀ b, TT b → b < w.heap.size := by
      rintro b ((hb | ⟨_, hb⟩) | ⟨L, ob, hL, y, hy⟩ | ⟨B, x, hB, rfl⟩)
      · exact hlt0 b hb
      · exact hXT b hb
      · exact ((h.s L ob hL).1.own b y hy).lt
      · exact (h.b B x hB).1.own.lt
    have hL : ∀ L ob, aget st1.s L = some ob → ∀ b, blkOf I L b → TT b := fun L ob q b hb => .inr (.inl ⟨L, ob, q, hb⟩)
    have hB : ∀ B x, aget st1.b B = some x → TT (I.γ B) := fun B x q => .inr (.inr ⟨B, x, q, rfl⟩)
    have hall : All2 (VRep (topB TT I.D true) I.D w) (us ++ caps) (vs ++ cvs) := by
      refine All2.append (hv.zip hsl fun sv v u _ hvr ⟨hint, hse⟩ => ?_) ((hcap TT (fun b hb => .inl hb) (.inr ⟨hL, hB⟩)).mono fun u v _ _ q => q.mono (fun b hb => .inr ⟨rfl, hb⟩) fun _ q => q)
      exact (sealSV_ok (TT := TT) (fun n c _ => (sealAll_ok h (fun b hb => .inl hb) hL hB n).1 c) hvr hse).mono (fun b hb => .inr ⟨rfl, hb⟩) fun _ q => q
    intro next Q hn
    unfold Oper.wp
    rw [hrun hc.ent, Oper.upon_enter]
    refine (hc.run w TT I.D (vs ++ cvs) hGw hTT hlt0 hall).mono fun e w' ⟨rv, D', oss, he, q1, q2, q3, q4, q5, q6, q7, q8⟩ => ?_
    subst he
    have hi := h.call q1 q2 q3 q4 q5
    obtain ⟨I', hI'⟩ := setRes_ok hi q6 q7 (fun b hb => by
      obtain ⟨p1, p2, p3⟩ := q8 b hb
      have hsz := h.wld.shp.1
      exact ⟨⟨p2, p3, fun ht => by have := hXT b ht; omega⟩, by omega, fun l ob y hl hy => by have := ((h.s l ob hl).1.own b y hy).lt; omega, fun B x hB q => by have := (h.b B x hB).1.own.lt; have q' : I.γ B = b := q; omega⟩) (fun ht => by rw [htvb] at ht; cases ht) e5
    exact hn _ _ _ hI'
  | true =>
    rw [htvb, ifB_true] at e5
    rw [htvb] at htv
    simp only [Bool.not_true, Bool.false_or, Bool.and_eq_true] at htv
    obtain ⟨hpa, hnc⟩ := htv
    have hcaps : caps = [] := by cases caps with
      | nil => rfl
      | cons _ _ => cases hnc
    let TT : Nat → Prop := fun b => topB X.T I.D true b ∨ (∃ L ∈ argLabels args, ∃ ob, aget st1.s L = some ob ∧ blkOf I L b)
    have hTT : ∀ b, TT b → b < w.heap.size := by
      rintro b ((hb | ⟨_, hb⟩) | ⟨L, _, ob, hL, y, hy⟩)
      · exact hlt0 b hb
      · exact hXT b hb
      · exact ((h.s L ob hL).1.own b y hy).lt
    have hall : All2 (VRep (topB TT I.D true) I.D w) (us ++ caps) (vs ++ cvs) := by
      refine All2.append (hv.zip hsl fun sv v u hmem hvr ⟨hint, hse⟩ => ?_) ((hcap TT (fun b hb => .inl hb) (.inl hcaps)).mono fun u v _ _ q => q.mono (fun b hb => .inr ⟨rfl, hb⟩) fun _ q => q)
      exact (sealSV_ok (TT := TT) (fun n => plainCs_seal h (fun b hb => .inl hb) (plainArgs_mem hpa sv hmem) (fun L hl ob hL b hb => .inr ⟨L, argLabels_mem hmem hl, ob, hL, hb⟩) n) hvr hse).mono (fun b hb => .inr ⟨rfl, hb⟩) fun _ q => q
    intro next Q hn
    unfold Oper.wp
    rw [hrun hc.ent, Oper.upon_enter]
    refine (hc.run w TT I.D (vs ++ cvs) hGw hTT hlt0 hall).mono fun e w' ⟨rv, D', oss, he, q1, q2, q3, q4, q5, q6, q7, q8⟩ => ?_
    subst he
    have hi := h.call q1 q2 q3 q4 q5
    obtain ⟨I2, hi2, d2, b2, l2, g2, f2, k2, c2, m2⟩ := hi.freezes (argLabels args)
    have hres : ResL TT I2.D w' r.vals rv oss := by
      have hmono : ∀ (ps : List (Val × RMode)) (vs : List Value) (oss : List (List (Option (Nat × Nat)))), ResL TT D' w' ps vs oss → ResL TT I2.D w' ps vs oss := by
        have hoc : ∀ (cs : List Cell) (vs : List Value) (os : List (Option (Nat × Nat))), OwnL D' w' cs vs os → OwnL I2.D w' cs vs os := by
          intro cs
          induction cs with
          | nil => intro vs os h; cases vs <;> cases os <;> exact h
          | cons c cs ih =>
            intro vs os h
            cases vs with
            | nil => exact h.elim
            | cons v vs =>
              cases os with
              | nil => exact h.elim
              | cons bo os =>
                refine ⟨?_, ih vs os h.2⟩
                have h1 := h.1
                cases c with
                | val tv k x =>
                  cases k with
                  | sl el => exact ⟨h1.1, h1.2.monoD d2⟩
                  | _ => exact ⟨h1.1, h1.2.1, h1.2.2.mono d2 d2⟩
                | _ => exact h1.elim
        intro ps
        induction ps with
        | nil => intro vs oss h; cases vs <;> cases oss <;> exact h
        | cons p ps ih =>
          intro vs oss h
          cases vs with
          | nil => exact h.elim
          | cons v vs =>
            cases oss with
            | nil => exact h.elim
            | cons os oss =>
              refine ⟨?_, ih vs oss h.2⟩
              have h1 := h.1
              obtain ⟨u, m⟩ := p
              cases m with
              | own => exact h1.imp (fun ⟨z1, vs', z2, z3⟩ => ⟨z1, vs', z2, hoc _ _ _ z3⟩) fun ⟨z1, z2⟩ => ⟨z1, hoc _ _ _ z2⟩
              | deep => exact ⟨h1.1, h1.2.mono d2 d2⟩
              | tv => exact ⟨h1.1, h1.2.mono (fun b hb => hb.imp (d2 b) id) d2⟩
      exact hmono _ _ _ q6
    obtain ⟨I', hI'⟩ := setRes_ok hi2 hres q7 (fun b hb => by
      obtain ⟨p1, p2, p3⟩ := q8 b hb
      have hsz := h.wld.shp.1
      refine ⟨⟨p2, fun hd => ?_, fun ht => by have := hXT b ht; omega⟩, by omega, fun l ob y hl hy => ?_, fun B x hB q => ?_⟩
      · rcases c2 b hd with hd | ⟨l, ob, hl, y, hy⟩
        · exact p3 hd
        · have := ((h.s l ob hl).1.own b y hy).lt
          omega
      · rw [b2] at hy
        have := ((h.s l ob (m2 l ob hl)).1.own b y hy).lt
        omega
      · obtain ⟨y, hy⟩ := freezes_b _ _ B x hB
        have := (h.b B y hy).1.own.lt
        rw [g2] at q
        have q' : I.γ B = b := q
        omega) (fun _ b hb => by
      rcases hb with hb | ⟨_, (hb | hb) | ⟨L, hLm, ob, hL, hb⟩⟩
      · exact .inl hb
      · exact .inl (d2 b (q3 b hb))
      · exact .inr hb
      · exact .inl (f2 L hLm (hpl L ob hL b hb) ob hL b hb)) e5
    exact hn _ _ _ hI'

theorem run_call {o : Oper} {c : Call} {f : Operand} {g : FuncId} {capv : Array Value} (hop : o.op = .call c) (hc : c.callee = .value f) (hf : a.eval f = .func (.func g) #[] capv) (he : Enterable P g) :
    (execOp a.eval o).run P w = .ok (.enter g ((c.args.toList.map a.eval) ++ capv.toList).toArray) w := by
  obtain ⟨fn, h1, h2, h3⟩ := he.ex
  have hargs : ((#[] : Array Value) ++ c.args.map a.eval) ++ capv = ((c.args.toList.map a.eval) ++ capv.toList).toArray := by apply Array.ext'; simp
  simp only [execOp, hop, resolve, hc, hf, Deferred.ofValue, Sem.run_bind, Sem.run_pure, Result.andThen_ok, invoke, callFunc, run_program, h1, h2, h3, hargs]
  simp [h2, h3]

/-! what a callee made, taken as what nobody writes any more -/
theorem ownC_rep {D D' : Nat → Prop} {tv : Bool} {k : Kd} {x : k.T} {v : Value} {bo : Option (Nat × Nat)} (hk : k ≠ .self) (h : OwnC D w (.val tv k x) v bo) (hD : ∀ b, D b → D' b) (hb : ∀ b y, bo = some (b, y) → D' b ∧ b < w.heap.size) : k.isAgg = false ∧ Rep D' D' w k x [v] := by
  by_cases hs : ∃ e, k = .sl e
  · obtain ⟨e, rfl⟩ := hs
    obtain ⟨⟨A, c, rfl, hlc, hA⟩, ho⟩ := h
    refine ⟨rfl, ?_⟩
    simp only [Rep]
    refine ⟨A, c, rfl, hlc, fun i y hy => ?_⟩
    obtain ⟨b, base, ecs, hbo, hl, hr, hc⟩ := ho i y hy
    obtain ⟨h1, h2⟩ := hb b base hbo
    have hpos : c ≠ 0 := by
      rintro rfl
      have := (List.getElem?_eq_some_iff.1 hy).1
      omega
    rcases hA with hA | ⟨b', base', hbo', hA, _⟩
    · exact absurd hA hpos
    · rw [hbo] at hbo'
      cases hbo'
      exact ⟨b, base, ecs, hA, h1, h2, hl, hr.mono hD hD, hc⟩
  · have h' : bo = none ∧ k.isAgg = false ∧ Rep D D w k x [v] := by
      cases k with
      | sl e => exact absurd ⟨e, rfl⟩ hs
      | _ => exact h
    exact ⟨h'.2.1, h'.2.2.mono hD hD⟩

theorem ownL_split' {D' : Nat → Prop} : ∀ {a b : List Cell} {vs : List Value} {os : List (Option (Nat × Nat))}, OwnL D' w (a ++ b) vs os → ∃ v1 v2 o1 o2, vs = v1 ++ v2 ∧ os = o1 ++ o2 ∧ OwnL D' w a v1 o1 ∧ OwnL D' w b v2 o2
  | [], b, vs, os, h => ⟨[], vs, [], os, rfl, rfl, trivial, h⟩
  | c :: a, b, v :: vs, bo :: os, h => by
    obtain ⟨v1, v2, o1, o2, rfl, rfl, h1, h2⟩ := ownL_split' (a := a) h.2
    exact ⟨v :: v1, v2, bo :: o1, o2, rfl, rfl, ⟨h.1, h1⟩, h2⟩
  | _ :: _, _, [], _, h => h.elim
  | _ :: _, _, _ :: _, [], h => h.elim

theorem ownL_rep {D D' : Nat → Prop} (hD : ∀ b, D b → D' b) : ∀ (k : Kd) (x : k.T) (vs : List Value) (os : List (Option (Nat × Nat))), OwnL D w (explode false k x) vs os → (∀ b ∈ blks os, D' b ∧ b < w.heap.size) → Rep D' D' w k x vs := by
  intro k
  induction k with
  | unit =>
    intro x vs os h _
    cases vs with
    | nil => simp [Rep]
    | cons v vs => cases os <;> exact h.elim
  | pair p q ihp ihq =>
    intro x vs os h hb
    obtain ⟨v1, v2, o1, o2, rfl, rfl, h1, h2⟩ := ownL_split' h
    have r1 := ihp x.1 v1 o1 h1 fun b hm => hb b (by rw [blks_append]; exact List.mem_append_left _ hm)
    have r2 := ihq x.2 v2 o2 h2 fun b hm => hb b (by rw [blks_append]; exact List.mem_append_right _ hm)
    simp only [Rep]
    exact ⟨v1, v2, rfl, rep_length r1, r1, r2⟩
  | self =>
    intro x vs os h _
    match vs, os, h with
    | [v], [bo], h => exact h.1.elim
    | [], _, h => exact h.elim
    | _ :: _ :: _, [_], h => exact h.2.elim
    | _ :: _ :: _, _ :: _ :: _, h => exact h.2.elim
    | [_], [], h => exact h.elim
    | [_], _ :: _ :: _, h => exact h.2.elim
    | _ :: _ :: _, [], h => exact h.elim
  | _ =>
    intro x vs os h hb
    match vs, os, h with
    | [v], [bo], h =>
      exact (ownC_rep (by simp) h.1 hD fun b y q => hb b (by subst q; simp [blks])).2
    | [], _, h => exact h.elim
    | _ :: _ :: _, [_], h => exact h.2.elim
    | _ :: _ :: _, _ :: _ :: _, h => exact h.2.elim
    | [_], [], h => exact h.elim
    | [_], _ :: _ :: _, h => exact h.2.elim
    | _ :: _ :: _, [], h => exact h.elim

theorem resL_deep {T' D D' : Nat → Prop} (hD : ∀ b, D b → D' b) : ∀ (ps : List (Val × RMode)) (vs : List Value) (oss : List (List (Option (Nat × Nat)))), hasTv ps = false → ResL T' D w ps vs oss → (∀ b ∈ blks oss.flatten, D' b ∧ b < w.heap.size) →
    ResL T' D' w (deepRes ps) vs (oss.map fun _ => [])
  | [], [], [], _, _, _ => trivial
  | (u, m) :: ps, v :: vs, os :: oss, ht, h, hb => by
    rw [hasTv, ifB_ite] at ht
    split at ht
    · cases ht
    rename_i hm
    rw [List.flatten_cons, blks_append] at hb
    refine ⟨⟨rfl, ?_⟩, resL_deep hD ps vs oss ht h.2 fun b hbm => hb b (List.mem_append_right _ hbm)⟩
    have h1 := h.1
    cases m with
    | own =>
      rcases (h1 : OwnV D w u v os) with ⟨ha, vs', hv, ho⟩ | ⟨ha, ho⟩
      · exact .inl ⟨ha, vs', hv, ownL_rep hD u.k u.x vs' os ho fun b hbm => hb b (List.mem_append_left _ hbm)⟩
      · exact .inr ⟨ha, ownL_rep hD u.k u.x [v] os ho fun b hbm => hb b (List.mem_append_left _ hbm)⟩
    | deep => exact (h1.2).mono hD hD
    | tv => simp at hm
  | [], _ :: _, _, _, h, _ => h.elim
  | [], [], _ :: _, _, h, _ => h.elim
  | _ :: _, [], _, _, h, _ => h.elim
  | _ :: _, _ :: _, [], _, h, _ => h.elim

theorem callsOkD {env : Env} (hmd : env.md = []) {G : World → Prop} (hGs : Steady G) (hG : G X.w0) {F : Sems} (hF : SemsOk P G F) (hmv : ∀ b, ¬ X.Mv b) (hm : ∀ b, ¬ X.Mm b) : CallsOkD P env F X := by
  intro I st st' a w o g args ts v hop h e hs
  have hGw : G w := hGs _ _ hG fun b hb => h.wld.frm b hb (hmv b) (hm b)
  have hv := h.evs args.toList
  unfold evCallS at e
  obtain ⟨us, hus, e2⟩ := bnd_eq e
  obtain ⟨r, hr, e3⟩ := bnd_eq e2
  obtain ⟨hc0, e4⟩ := ifB_some e3
  cases e4
  simp only [Bool.and_eq_true, decide_eq_true_eq, Bool.not_eq_true'] at hc0
  obtain ⟨⟨⟨htv, _⟩, hsz⟩, hln⟩ := hc0
  rw [mds_ro hmd] at hus
  have hsl := sealArgs_ro _ _ _ hus
  have hc := hF g _ r hr
  have hlt0 : ∀ b, I.D b → b < w.heap.size := h.wld.dlt
  have hXT : ∀ b, X.T b → b < w.heap.size := fun b hb => Nat.lt_of_lt_of_le (X.hT b hb).1 h.wld.shp.1
  let TT : Nat → Prop := fun b => topB X.T I.D true b ∨ (∃ L ob, aget st.s L = some ob ∧ blkOf I L b) ∨ (∃ B x, aget st.b B = some x ∧ b = I.γ B)
  have hTT : ∀ b, TT b → b < w.heap.size := by
    rintro b ((hb | ⟨_, hb⟩) | ⟨L, ob, hL, y, hy⟩ | ⟨B, x, hB, rfl⟩)
    · exact hlt0 b hb
    · exact hXT b hb
    · exact ((h.s L ob hL).1.own b y hy).lt
    · exact (h.b B x hB).1.own.lt
  have hL : ∀ L ob, aget st.s L = some ob → ∀ b, blkOf I L b → TT b := fun L ob q b hb => .inr (.inl ⟨L, ob, q, hb⟩)
  have hB : ∀ B x, aget st.b B = some x → TT (I.γ B) := fun B x q => .inr (.inr ⟨B, x, q, rfl⟩)
  have hall : All2 (VRep (topB TT I.D true) I.D w) us (args.toList.map a.eval) := by
    refine hv.zip hsl fun sv v u _ hvr ⟨hint, hse⟩ => ?_
    exact (sealSV_ok (TT := TT) (fun n c _ => (sealAll_ok h (fun b hb => .inl hb) hL hB n).1 c) hvr hse).mono (fun b hb => .inr ⟨rfl, hb⟩) fun _ q => q
  have hrun := run_call (P := P) (a := a) (w := w) (f := .func g) (g := g) (capv := #[]) hop rfl rfl hc.ent
  intro next Q hn
  unfold Oper.wp
  rw [hrun, Oper.upon_enter]
  have hcr := hc.run w TT I.D (args.toList.map a.eval) hGw hTT hlt0 hall
  simp only [Array.toList_empty, List.append_nil] at hcr ⊢
  refine hcr.mono fun e w' ⟨rv, D', oss, he, q1, q2, q3, q4, q5, q6, q7, q8⟩ => ?_
  subst he
  have hi := h.call (D' := fun b => D' b ∨ b ∈ blks oss.flatten) q1 q2 (fun b hb => .inl (q3 b hb)) (fun b hb => hb.elim (q4 b) fun q => (q8 b q).2.1) (fun b hb => hb.elim (q5 b) fun q => .inr (q8 b q).1)
  have hr2 := resL_deep (T' := TT) (D' := fun b => D' b ∨ b ∈ blks oss.flatten) (fun b hb => .inl hb) r.vals rv oss htv q6 fun b hb => ⟨.inr hb, (q8 b hb).2.1⟩
  have hz : blks (oss.map fun _ => ([] : List (Option (Nat × Nat)))).flatten = [] := by
    have : (oss.map fun _ => ([] : List (Option (Nat × Nat)))).flatten = [] := by
      induction oss with
      | nil => rfl
      | cons x l ih => simp
    rw [this]; rfl
  obtain ⟨d1, d2, d3⟩ := deep_flat r.vals
  have hset : setRes st (deepRes r.vals) o.dst = some st' := by
    cases ho : o.dst with
    | none => rw [ho] at hs; exact hs
    | some d =>
      rw [ho] at hs
      have hf := flat_res (ps := deepRes r.vals) (d * 1000) d1
      simp only [setRes, d3, hsz, d2, hln, decide_true, Bool.and_true, ifB_true, hf.2.1, hf.2.2]
      exact hs
  obtain ⟨I', hI'⟩ := setRes_ok hi hr2 (by rw [hz]; exact List.nodup_nil) (by rw [hz]; intro b hb; cases hb) (fun ht => by
    have := (flat_res (ps := deepRes r.vals) 0 d1).1
    rw [this] at ht; cases ht) hset
  exact hn _ _ _ hI'

theorem callsOk {env : Env} (hmd : env.md = []) {G : World → Prop} (hGs : Steady G) (hG : G X.w0) {F : Sems} (hF : SemsOk P G F) (hmv : ∀ b, ¬ X.Mv b) (hm : ∀ b, ¬ X.Mm b) : CallsOk P env F X := by
  intro I st st' a w o c f hop hc h e
  have hv := h.evs c.args.toList
  have hfv := h.ev f
  unfold evCallV at e
  split at e
  · rename_i g q
    rw [q] at hfv
    have hf : a.eval f = .func (.func g) #[] #[] := hfv
    exact call_ok hmd hGs hG hF h hmv hm hv (caps := []) (capv := #[]) (cvs := []) rfl (fun _ _ _ => trivial) (fun he => run_call hop hc hf he) e
  · rename_i g B r q
    rw [q] at hfv
    obtain ⟨_, e1⟩ := ifB_some e
    obtain ⟨u, hu, e2⟩ := bnd_eq e1
    have hf : a.eval f = .func (.func g) #[] ((B :: r).map fun B => boxPtr (I.γ B)).toArray := hfv
    refine call_ok hmd hGs hG hF h hmv hm hv (capv := ((B :: r).map fun B => boxPtr (I.γ B)).toArray) (cvs := (B :: r).map fun B => boxPtr (I.γ B)) (by simp) (fun TT hT ha => ?_) (fun he => run_call hop hc hf he) e2
    have hne : unpack (cloV g u) u.k u.x ≠ [] := by
      unfold fuelS at hu
      simp only [sealCaps] at hu
      obtain ⟨x, _, hu⟩ := bnd_eq hu
      obtain ⟨u1, _, hu⟩ := bnd_eq hu
      obtain ⟨u2, _, hu⟩ := bnd_eq hu
      cases hu
      simp only [pairV, unpack]
      intro q; cases q
    rcases ha with ha | ⟨hL, hB⟩
    · exact absurd ha hne
    · have hrc := (sealAll_ok h hT hL hB fuelS).2.1 g (B :: r) (B :: r) u hu
      have hcl : Rep TT I.D w (cloV g u).k (cloV g u).x [.func (.func g) #[] ((B :: r).map fun B => boxPtr (I.γ B)).toArray] := by
        simp only [cloV, Rep]
        exact ⟨_, rfl, hrc⟩
      exact unpack_ok hcl u.k u.x _ hrc
  · rename_i tv g ks x q
    rw [q] at hfv
    obtain ⟨_, e1⟩ := ifB_some e
    have hr := hfv.2
    simp only [Rep] at hr
    obtain ⟨ptrs, hp, _⟩ := hr
    simp only [List.cons.injEq, and_true] at hp
    refine call_ok hmd hGs hG hF h hmv hm hv (capv := ptrs.toArray) (cvs := ptrs) (by simp) (fun TT hT _ => ?_) (fun he => by have := run_call (w := w) hop hc hp he; simpa using this) e1
    have hr2 : Rep TT I.D w (.clo g ks) x [a.eval f] := hfv.2.mono (fun b hb => hT b (hb.imp id fun q => ⟨rfl, q.2⟩)) fun _ q => q
    have hr3 := hr2
    simp only [Rep] at hr3
    obtain ⟨ptrs', hp', hrc⟩ := hr3
    rw [hp] at hp'
    simp only [List.cons.injEq, and_true, Value.func.injEq, true_and] at hp'
    have hpp : ptrs = ptrs' := by simpa using hp'
    subst hpp
    rw [hp] at hr2
    exact unpack_ok (cl := ⟨.clo g ks, x⟩) hr2 ks x ptrs hrc
  · cases e

end Go.Ev
