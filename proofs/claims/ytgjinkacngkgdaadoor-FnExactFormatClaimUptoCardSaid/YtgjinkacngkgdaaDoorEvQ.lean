/- Guards, regions, code. -/
import Derived.Test.YtgjinkacngkgdaaDoorEvP
import Derived.Test.YtgjinkacngkgdaaDoorEvL
namespace Go.Ev
set_option linter.unusedVariables false
set_option linter.unusedSimpArgs false

variable {X : Cx} {I : It} {st st' : St} {a : Act} {w w' : World} {T : Nat → Prop} {P : Program}

theorem oneC_some {x : SV} {c : Cell} (h : oneC x = some c) : x = .one c := by
  unfold oneC at h
  split at h
  · cases h; rfl
  · cases h

theorem lift1_ok {g : Bool} {x : SV} {f : SV → Option SV} {c : Cell} {v : Value} (hg : g = true) (hx : VR T I w x v) (e : lift1 g x f = some c) : ∃ cx, VR T I w (.one cx) v ∧ f (.one cx) = some (.one c) := by
  obtain ⟨p, e1, e2⟩ := bnd_eq e
  obtain ⟨hi, e3⟩ := ifB_some e2
  obtain ⟨s, e4, e5⟩ := bnd_eq e3
  have := oneC_some e5
  subst this
  exact ⟨p.2, vr_one (unw_ok hx (b := p.1) e1 (impB_elim hi hg)), e4⟩

theorem lift2_ok {g : Bool} {x y : SV} {f : SV → SV → Option SV} {c : Cell} {v u : Value} (hg : g = true) (hx : VR T I w x v) (hy : VR T I w y u) (e : lift2 g x y f = some c) :
    ∃ cx cy, VR T I w (.one cx) v ∧ VR T I w (.one cy) u ∧ f (.one cx) (.one cy) = some (.one c) := by
  obtain ⟨p, e1, e2⟩ := bnd_eq e
  obtain ⟨q, e3, e4⟩ := bnd_eq e2
  obtain ⟨hi, e5⟩ := ifB_some e4
  obtain ⟨s, e6, e7⟩ := bnd_eq e5
  have := oneC_some e7
  subst this
  simp only [Bool.and_eq_true] at hi
  exact ⟨p.2, q.2, vr_one (unw_ok hx (b := p.1) e1 (impB_elim hi.1 hg)), vr_one (unw_ok hy (b := q.1) e3 (impB_elim hi.2 hg)), e6⟩

theorem unw_both {g : Bool} {x y : SV} {v u : Value} {f : Bool × Cell → Bool × Cell → Option Cell} {c : Cell} (e : (bnd (unw x) fun p => bnd (unw y) fun q => f p q) = some c) : ∃ p q, unw x = some p ∧ unw y = some q ∧ f p q = some c := by
  obtain ⟨p, e1, e2⟩ := bnd_eq e
  obtain ⟨q, e3, e4⟩ := bnd_eq e2
  exact ⟨p, q, e1, e3, e4⟩

theorem imp3 {g a b c : Bool} (h : impB g (a && (b && c)) = true) (hg : g = true) : a = true ∧ b = true ∧ c = true := by
  have := impB_elim h hg
  simp only [Bool.and_eq_true] at this
  exact ⟨this.1, this.2.1, this.2.2⟩

theorem liftBin_ok {g : Bool} (hg : g = true) {ty : TyE} {op : BinOp} {p q : Bool × Cell} {c : Cell} (e : liftBin g op p q = some c) : p.1 = true ∧ q.1 = true ∧ evBin ty op (.one p.2) (.one q.2) = some (.one c) := by
  unfold liftBin at e
  split at e
  · rename_i gx tvx k a gy tvy k' b
    split at e
    · obtain ⟨h, e⟩ := ifB_some e
      obtain ⟨h1, h2, h3⟩ := imp3 h hg
      cases e
      simp only [Bool.not_eq_true'] at h3
      exact ⟨h1, h2, by simp [evBin, intOp, ifB, h3, tI]⟩
    · obtain ⟨h, e⟩ := ifB_some e
      obtain ⟨h1, h2, h3⟩ := imp3 h hg
      cases e
      simp only [Bool.not_eq_true'] at h3
      exact ⟨h1, h2, by simp [evBin, intOp, ifB, h3, tI]⟩
    · obtain ⟨h, e⟩ := ifB_some e
      simp only [Bool.and_eq_true] at h
      obtain ⟨h1, h2, h3⟩ := imp3 h.2 hg
      cases e
      simp only [Bool.not_eq_true'] at h3
      exact ⟨h1, h2, by simp [evBin, intOp, ifB, h3, tI, h.1]⟩
    · obtain ⟨h, e⟩ := ifB_some e
      simp only [Bool.and_eq_true] at h
      obtain ⟨h1, h2, h3⟩ := imp3 h.2 hg
      cases e
      simp only [Bool.not_eq_true'] at h3
      exact ⟨h1, h2, by simp [evBin, intOp, ifB, h3, tI, h.1]⟩
    · cases e
  · cases e

theorem inB_ix {i : Int} {n : Nat} (h : inB i n = true) : inIx i n = some i.toNat ∧ i.toNat < n := by
  unfold inB at h
  refine ⟨by simp only [inIx, h, ifB_true], ?_⟩
  simp only [Bool.and_eq_true, decide_eq_true_eq] at h
  omega

theorem liftIx_ok {g : Bool} (hg : g = true) {ty : TyE} {p q : Bool × Cell} {c : Cell} (e : liftIx g ty p q = some c) : p.1 = true ∧ q.1 = true ∧ evIndexAddr ty (.one p.2) (.one q.2) = some (.one c) := by
  unfold liftIx at e
  split at e
  · obtain ⟨h, e⟩ := ifB_some e
    rw [Bool.and_eq_true] at h
    obtain ⟨h1, h2, h3⟩ := imp3 h.2 hg
    obtain ⟨h4, h5⟩ := inB_ix h3
    cases e
    exact ⟨h1, h2, by simp only [evIndexAddr, h.1, ifB_true, elemP, h4, bnd_some, getK_some h5]⟩
  · obtain ⟨h, e⟩ := ifB_some e
    rw [Bool.and_eq_true] at h
    obtain ⟨h1, h2, h3⟩ := imp3 h.2 hg
    obtain ⟨h4, h5⟩ := inB_ix h3
    cases e
    exact ⟨h1, h2, by simp only [evIndexAddr, h.1, ifB_true, elemP, h4, bnd_some, getK_some h5]⟩
  · obtain ⟨h, e⟩ := ifB_some e
    rw [Bool.and_eq_true] at h
    obtain ⟨h1, h2, h3⟩ := imp3 h.2 hg
    obtain ⟨h4, h5⟩ := inB_ix h3
    cases e
    exact ⟨h1, h2, by simp only [evIndexAddr, h.1, ifB_true, h4, bnd_some]⟩
  · obtain ⟨h, e⟩ := ifB_some e
    rw [Bool.and_eq_true] at h
    obtain ⟨h1, h2, h3⟩ := imp3 h.2 hg
    obtain ⟨h4, h5⟩ := inB_ix h3
    cases e
    exact ⟨h1, h2, by simp only [evIndexAddr, h.1, ifB_true, h4, bnd_some]⟩
  · cases e

theorem liftSx_ok {g : Bool} (hg : g = true) {ty : TyE} (hf : (ty.form == 4) = true) {p q : Bool × Cell} {c : Cell} (e : liftSx g p q = some c) : p.1 = true ∧ q.1 = true ∧ evIndex ty (.one p.2) (.one q.2) = some (.one c) := by
  unfold liftSx at e
  split at e
  · rename_i gx tvx s gy tvy ik i
    obtain ⟨h, e⟩ := ifB_some e
    obtain ⟨h1, h2, h3⟩ := imp3 h hg
    obtain ⟨h4, h5⟩ := inB_ix h3
    cases e
    have h6 : (s : List UInt8)[Int.toNat i]? = some (s : List UInt8)[Int.toNat i]! := by
      rw [getElem!_pos s _ h5, List.getElem?_eq_getElem h5]
    exact ⟨h1, h2, by simp only [evIndex, hf, ifB_true, h4, bnd_some, h6, tI]⟩
  · cases e

theorem liftLd_ok {g : Bool} (hg : g = true) {ty : TyE} {p : Bool × Cell} {c : Cell} (e : liftLd g ty st p = some c) : p.1 = true ∧ evLoad ty st (.one p.2) = some (.one c) := by
  unfold liftLd at e
  split at e
  · obtain ⟨hok, e⟩ := ifB_some e
    unfold liftE at e
    split at e
    · rename_i o ho
      obtain ⟨l, e1, e⟩ := bnd_eq e
      obtain ⟨h, e⟩ := ifB_some e
      obtain ⟨sv, e2, e3⟩ := bnd_eq e
      have := impB_elim h hg
      simp only [Bool.and_eq_true, decide_eq_true_eq] at this
      have := oneC_some e3
      subst this
      rename_i this _
      exact ⟨this.1, by simp only [evLoad, hok, ifB_true, evLoad1, ho, loadE, e1, bnd_some, getK_some this.2, e2]⟩
    · cases e
  · obtain ⟨h, e⟩ := ifB_some e
    obtain ⟨sv, e2, e3⟩ := bnd_eq e
    have := oneC_some e3
    subst this
    exact ⟨impB_elim h hg, e2⟩

theorem evLift_ok {env : Env} (hP : env.P = P) {g : Bool} (hg : g = true) {o : Oper} {c : Cell} (h : Inv X I st a w) (e : evLift env st g o.op = some (some c)) :
    ∃ v, (execOp a.eval o).run P w = .ok (.value v) w ∧ VR X.T I w (.one c) v := by
  subst hP
  cases hop : o.op with
  | move x =>
    rw [hop] at e
    simp only [evLift, Option.some.injEq] at e
    obtain ⟨cx, h1, h2⟩ := lift1_ok hg (h.ev x) e
    cases h2
    exact ⟨_, by simp [execOp, hop], h1⟩
  | binOp op t x y yt =>
    rw [hop] at e
    simp only [evLift, Option.some.injEq, ifB_ite] at e
    have key : ∃ cx cy, VR X.T I w (.one cx) (a.eval x) ∧ VR X.T I w (.one cy) (a.eval y) ∧ evBin (env.ty t) op (.one cx) (.one cy) = some (.one c) := by
      split at e
      · exact lift2_ok hg (h.ev x) (h.ev y) e
      · obtain ⟨p, q, e1, e2, e3⟩ := unw_both (g := g) (v := a.eval x) (u := a.eval y) e
        obtain ⟨g1, g2, g3⟩ := liftBin_ok hg (ty := env.ty t) e3
        exact ⟨p.2, q.2, vr_one (unw_ok (h.ev x) (b := p.1) e1 g1), vr_one (unw_ok (h.ev y) (b := q.1) e2 g2), g3⟩
    obtain ⟨cx, cy, h1, h2, h3⟩ := key
    obtain ⟨v, hr, hv⟩ := evBin_ok (P := env.P) (ox := x) (oy := y) h1 h2 h3
    exact ⟨v, by simp only [execOp, hop, Sem.run_bind] at hr ⊢; simp [hr], hv⟩
  | unOp op t x =>
    rw [hop] at e
    simp only [evLift, Option.some.injEq] at e
    obtain ⟨cx, h1, h2⟩ := lift1_ok hg (h.ev x) e
    obtain ⟨v, hr, hv⟩ := evUn_ok (P := env.P) h1 h2
    exact ⟨v, by simp [execOp, hop, hr], hv⟩
  | pick x y z =>
    rw [hop] at e
    simp only [evLift, Option.some.injEq] at e
    obtain ⟨r, hr, e1⟩ := bnd_eq e
    obtain ⟨hi, e2⟩ := ifB_some e1
    cases e2
    exact ⟨_, by simp only [execOp, hop]; exact pick_ok (h.ev x) (h.ev y) (h.ev z) hr (impB_elim hi hg), vr_one (mk_bool false r.2)⟩
  | fieldAddr t x f =>
    rw [hop] at e
    simp only [evLift, Option.some.injEq] at e
    obtain ⟨cx, h1, h2⟩ := lift1_ok hg (h.ev x) e
    obtain ⟨v, hr, hv⟩ := evFieldAddr_ok (P := env.P) h1 h2
    exact ⟨v, by simp [execOp, hop, hr], hv⟩
  | load t x =>
    rw [hop] at e
    simp only [evLift, ifB_ite] at e
    split at e
    · cases e
    · simp only [Option.some.injEq] at e
      obtain ⟨p, e1, e2⟩ := bnd_eq e
      obtain ⟨g1, g2⟩ := liftLd_ok hg e2
      obtain ⟨v, hr, hv⟩ := evLoad_ok (P := env.P) h (vr_one (unw_ok (h.ev x) (b := p.1) e1 g1)) g2
      exact ⟨v, by simp [execOp, hop, hr], hv⟩
  | indexAddr t x i =>
    rw [hop] at e
    simp only [evLift, Option.some.injEq] at e
    obtain ⟨p, q, e1, e2, e3⟩ := unw_both (g := g) (v := a.eval x) (u := a.eval i) e
    obtain ⟨g1, g2, g3⟩ := liftIx_ok hg e3
    obtain ⟨v, hr, hv⟩ := evIndexAddr_ok (P := env.P) h (vr_one (unw_ok (h.ev x) (b := p.1) e1 g1)) (vr_one (unw_ok (h.ev i) (b := q.1) e2 g2)) g3
    exact ⟨v, by simp [execOp, hop, hr], hv⟩
  | index t x i =>
    rw [hop] at e
    simp only [evLift, ifB_ite] at e
    split at e
    · rename_i hf
      simp only [Option.some.injEq] at e
      obtain ⟨p, q, e1, e2, e3⟩ := unw_both (g := g) (v := a.eval x) (u := a.eval i) e
      obtain ⟨g1, g2, g3⟩ := liftSx_ok hg hf e3
      obtain ⟨v, hr, hv⟩ := evIndex_ok (P := env.P) (vr_one (unw_ok (h.ev x) (b := p.1) e1 g1)) (vr_one (unw_ok (h.ev i) (b := q.1) e2 g2)) g3
      exact ⟨v, by simp [execOp, hop, hr], hv⟩
    · cases e
  | call c' =>
    rw [hop] at e
    unfold evLift at e
    split at e <;> first | (rename_i q; cases q; done) | skip
    · rename_i x t ts q
      injection q with q
      subst q
      simp only [Option.some.injEq] at e
      obtain ⟨cx, h1, h2⟩ := lift1_ok hg (h.ev x) e
      obtain ⟨n, hn, e2⟩ := bnd_eq h2
      have hl := evLen_ok (P := env.P) (ty := o.type) h1 hn
      have hl' : (Builtin.len_ ⟨t :: ts⟩ o.type #[a.eval x]).run env.P w = .ok (goInt n) w := by
        rw [← hl]; simp only [Builtin.len_, List.getElem?_toArray, List.getElem?_cons_zero]
      refine ⟨goInt n, ?_, tI_ok e2⟩
      simp only [execOp, hop, resolve, Sem.run_bind, Sem.run_pure, Result.andThen_ok, invoke, builtin]
      have : (Array.map a.eval #[x]) = #[a.eval x] := by simp
      rw [this, hl']
      rfl
    · cases e
  | _ => rw [hop] at e; cases e

theorem getD_some {a : Act} {d : Nat} {b : Bool} (h : a.tmps.getD d undef = .bool b) : a.tmps[d]? = some (.bool b) := by
  rw [Array.getD_eq_getD_getElem?] at h
  cases hq : a.tmps[d]? with
  | none => rw [hq] at h; cases h
  | some v => rw [hq] at h; simpa using h

theorem gcond_ok {ops : Array Oper} {o : Oper} {j d : Nat} {want g : Bool} (hg : o.guard = some (j, want)) (hd : (ops[j]?).bind (·.dst) = some d) (h : Inv X I st a w) (e : gcond want (st.ev (.tmp d)) = some g) :
    Region.wanted o (yielded ops a.tmps) = g := by
  have hw : ∀ c : Bool, ((some c : Option Bool) == some want) = wantB c want := by intro c; cases c <;> cases want <;> rfl
  have hv := h.ev (.tmp d)
  have hev : a.eval (.tmp d) = a.tmps.getD d undef := rfl
  rw [hev] at hv
  unfold gcond at e
  split at e
  · rename_i tv c q
    cases e
    rw [q] at hv
    have := getD_some (vr_bool hv)
    simp only [Region.wanted, hg, yielded, hd, Option.bind_some, this]
    exact hw c
  · rename_i g' tv c q
    cases e
    rw [q] at hv
    cases hgv : g' with
    | true =>
      have := getD_some (vr_bool (hv.1 hgv))
      simp only [Region.wanted, hg, yielded, hd, Option.bind_some, this, Bool.true_and]
      exact hw c
    | false =>
      have hu := hv.2 hgv
      simp only [Region.wanted, hg, yielded, hd, Option.bind_some, Bool.false_and]
      rw [Array.getD_eq_getD_getElem?] at hu
      cases hq : a.tmps[d]? with
      | none => rfl
      | some v =>
        rw [hq] at hu
        simp only [Option.getD_some] at hu
        subst hu
        rfl
  · cases e

theorem dstAt_eq (l : List Oper) (j : Nat) : dstAt l j = (l[j]?).bind (·.dst) := by
  induction l generalizing j with
  | nil => rfl
  | cons o l ih => cases j with
    | zero => rfl
    | succ j => simpa [dstAt] using ih j

/-- an operation of a region: wanted or not, it leads into the state -/
theorem evOp_ok {env : Env} (hP : env.P = P) {F : Sems} (hF : CallsOk P env F X) {ops : Array Oper} {o : Oper} (h : Inv X I st a w) (e : evOp env F ops.toList st o o.guard = some st') :
    (Region.wanted o (yielded ops a.tmps) = true → OpWp P X o a w st') ∧ (Region.wanted o (yielded ops a.tmps) = false → ∃ I', Inv X I' st' (a.put o.dst undef) w) := by
  unfold evOp at e
  split at e
  · rename_i hg
    refine ⟨fun _ => evOp1_ok hP hF h e, fun hw => ?_⟩
    simp [Region.wanted, hg] at hw
  · rename_i p hg
    unfold evG at e
    split at e
    · rename_i d hd
      rw [dstAt_eq] at hd
      obtain ⟨g, hgc, e1⟩ := bnd_eq e
      have hwg := gcond_ok (ops := ops) (o := o) (j := p.1) (want := p.2) hg (by simpa using hd) h hgc
      rw [hwg]
      unfold evGuard at e1
      split at e1
      · rename_i r hl
        obtain ⟨c, hc, e2⟩ := bnd_eq e1
        subst hc
        refine ⟨fun hgt => ?_, fun hgf => ?_⟩
        · obtain ⟨v, hr, hv⟩ := evLift_ok hP hgt h hl
          refine opWp_value hr (h.setT ?_ e2)
          exact ⟨fun _ => hv, fun hf => by rw [hgt] at hf; cases hf⟩
        · exact ⟨I, h.setT (sv := .gd g c) (v := undef) ⟨fun ht => (by rw [hgf] at ht; cases ht), fun _ => rfl⟩ e2⟩
      · rw [ifB_ite] at e1
        split at e1
        · rename_i hgt
          refine ⟨fun _ => evOp1_ok hP hF (h.under hgt) e1, fun hgf => by rw [hgt] at hgf; cases hgf⟩
        · rename_i hgt
          exact ⟨fun hg => absurd hg hgt, fun _ => ⟨I, h.setT (sv := offV) (v := undef) ⟨fun q => (by cases q), fun _ => rfl⟩ e1⟩⟩
    · cases e

theorem evOps_ok {env : Env} (hP : env.P = P) {F : Sems} (hF : CallsOk P env F X) {ops : Array Oper} {Q : Exit → Act → World → Prop} : ∀ (l : List Nat) (os : List Oper) {I : It} {st : St} {a : Act} {w : World},
    All2 (fun i o => ops[i]? = some o) l os → Inv X I st a w → evOps env F ops.toList os st = some st' → (∀ a' w' I', Inv X I' st' a' w' → Q .normal a' w') → wpOps P ops Q l a w
  | [], [], I, st, a, w, _, h, e, hq => by cases e; exact hq a w I h
  | i :: l, o :: os, I, st, a, w, hl, h, e, hq => by
    obtain ⟨s, e1, e2⟩ := bnd_eq e
    obtain ⟨h1, h2⟩ := evOp_ok hP hF (ops := ops) h e1
    simp only [wpOps, hl.1]
    split
    · rename_i hw
      exact .inl (h1 hw _ _ fun a' w' I' hi => evOps_ok hP hF l os hl.2 hi e2 hq)
    · rename_i hw
      obtain ⟨I', hi⟩ := h2 (by simpa using hw)
      exact evOps_ok hP hF l os hl.2 hi e2 hq
  | [], _ :: _, _, _, _, _, h, _, _, _ => h.elim
  | _ :: _, [], _, _, _, _, h, _, _, _ => h.elim

theorem range_ops (ops : Array Oper) : All2 (fun i o => ops[i]? = some o) (List.range ops.size) ops.toList := by
  refine All2.of_get (by simp) fun i j o hi ho => ?_
  have hl : i < (List.range ops.size).length := by
    rcases Nat.lt_or_ge i (List.range ops.size).length with h' | h'
    · exact h'
    · rw [List.getElem?_eq_none h'] at hi; cases hi
  rw [List.getElem?_eq_getElem hl] at hi
  simp only [List.getElem_range, Option.some.injEq] at hi
  subst hi
  simpa using ho

end Go.Ev
