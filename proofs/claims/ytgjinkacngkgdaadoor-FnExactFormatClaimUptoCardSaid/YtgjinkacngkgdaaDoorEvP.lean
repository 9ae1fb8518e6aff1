/- The operations: what the evaluator makes of one is what the machine makes of it. -/
import Derived.Test.YtgjinkacngkgdaaDoorEvO
import Derived.LoopN
namespace Go.Ev
set_option linter.unusedVariables false
set_option linter.unusedSimpArgs false

variable {X : Cx} {I : It} {st st' : St} {a : Act} {w w' : World} {T : Nat → Prop} {P : Program}

/-- the operation leads into the state -/
def OpWp (P : Program) (X : Cx) (o : Oper) (a : Act) (w : World) (st : St) : Prop :=
  ∀ (next : Act → World → Prop) (Q : Exit → Act → World → Prop), (∀ a' w' I', Inv X I' st a' w' → next a' w') → o.wp P a w next Q

theorem opWp_value {o : Oper} {v : Value} {I' : It} (hr : (execOp a.eval o).run P w = .ok (.value v) w') (h : Inv X I' st' (a.put o.dst v) w') : OpWp P X o a w st' := by
  intro next Q hn
  unfold Oper.wp
  rw [hr]
  exact hn _ _ _ h

theorem opWp_skip {o : Oper} {I' : It} (hr : (execOp a.eval o).run P w = .ok .skip w') (h : Inv X I' st' (a.put o.dst undef) w') : OpWp P X o a w st' := by
  intro next Q hn
  unfold Oper.wp
  rw [hr]
  exact hn _ _ _ h

/-- what is asked of calls of functions -/
def CallsOk (P : Program) (env : Env) (F : Sems) (X : Cx) : Prop :=
  ∀ (I : It) (st st' : St) (a : Act) (w : World) (o : Oper) (c : Call) (f : Operand), o.op = .call c → c.callee = .value f → Inv X I st a w →
    evCallV env F st o.dst c.argTypes.toList (evs st c.args.toList) (st.ev f) = some st' → OpWp P X o a w st'

theorem Inv.evs (h : Inv X I st a w) : ∀ (l : List Operand), All2 (VR X.T I w) (evs st l) (l.map a.eval)
  | [] => trivial
  | x :: r => ⟨h.ev x, Inv.evs h r⟩

theorem array_two {α : Type} {xs : Array α} {a b : α} (h : xs.toList = [a, b]) : xs = #[a, b] := by
  apply Array.ext'; simp [h]

theorem toList_cons {α : Type} {xs : Array α} {x : α} {r : List α} (h : xs.toList = x :: r) : xs[0]? = some x := by
  rw [← Array.getElem?_toList, h]; rfl

theorem evBuiltin_ok {env : Env} (hP : env.P = P) {d : Option Nat} {ts : Array TypeId} {ty : TypeId} {b : Builtin} {cs : Array Bool} {vs : List SV} {xs : List Value} (h : Inv X I st a w) (hv : All2 (VR X.T I w) vs xs)
    (e : evBuiltin env st d ts.toList b vs = some st') : ∃ v w' I', (builtin b ts ty cs xs.toArray).run P w = .ok (.value v) w' ∧ Inv X I' st' (a.put d v) w' := by
  subst hP
  unfold evBuiltin at e
  split at e
  · -- len
    rename_i sx
    obtain ⟨t, ht, e1⟩ := bnd_eq e
    obtain ⟨n, hn, e2⟩ := bnd_eq e1
    match xs, hv with
    | [x], hv =>
      cases hts : ts.toList with
      | nil => rw [hts] at ht; cases ht
      | cons t0 r =>
        rw [hts] at ht
        cases ht
        have h0 := toList_cons hts
        have hl := evLen_ok (P := env.P) (ty := ty) hv.1 hn
        have hl' : (Builtin.len_ ts ty #[x]).run env.P w = .ok (goInt n) w := by
          rw [← hl]; simp only [Builtin.len_, h0, List.getElem?_toArray, List.getElem?_cons_zero]
        refine ⟨goInt n, w, I, ?_, ?_⟩
        · simp [builtin, hl']
        · exact h.setT (vr_one (mk_int false .i64 (n : Int))) e2
  · -- append
    rename_i sa sb
    obtain ⟨t, ht, e1⟩ := bnd_eq e
    obtain ⟨hok, e2⟩ := ifB_some e1
    match xs, hv with
    | [x, y], hv =>
      cases hts : ts.toList with
      | nil => rw [hts] at ht; cases ht
      | cons t0 r =>
        rw [hts] at ht hok
        cases ht
        have h0 := toList_cons hts
        have h1 : ∀ u, ts[1]? = some u → ∃ d, env.P.underlying u = some d ∧ ∀ k, d ≠ .int k := by
          intro u hu
          rw [← Array.getElem?_toList, hts] at hu
          cases r with
          | nil => simp at hu
          | cons u' r' =>
            simp at hu
            subst hu
            simp only [appOk, Bool.and_eq_true, Bool.not_eq_true', beq_eq_false_iff_ne] at hok
            obtain ⟨i, d, h1, h2, h3⟩ := tyOf_split env.P u' (.inl hok.1)
            refine ⟨d, h2, ?_⟩
            rintro k rfl
            have : (env.ty u').form = 5 := by show (tyOf env.P u').form = 5; rw [h3]; rfl
            exact hok.2 this
        obtain ⟨v, w', I', hr, hi⟩ := evAppend_ok (P := env.P) (ty := ty) h0 h1 h hv.1 hv.2.1 e2
        exact ⟨v, w', I', by simp [builtin, hr], hi⟩
  · -- max
    rename_i sa r
    obtain ⟨sv, hs, e1⟩ := bnd_eq e
    match xs, hv with
    | x :: xr, hv =>
      obtain ⟨v, hr, hv'⟩ := fold_ok (P := env.P) (g := Builtin.max2) (fun sx sy sv x y => maxV_ok sx sy sv x y) r xr sa sv x hv.2 hv.1 hs
      exact ⟨v, w, I, by simp [builtin, Builtin.max_, hr], h.setT hv' e1⟩
  · rename_i sa r
    obtain ⟨sv, hs, e1⟩ := bnd_eq e
    match xs, hv with
    | x :: xr, hv =>
      obtain ⟨v, hr, hv'⟩ := fold_ok (P := env.P) (g := Builtin.min2) (fun sx sy sv x y => minV_ok sx sy sv x y) r xr sa sv x hv.2 hv.1 hs
      exact ⟨v, w, I, by simp [builtin, Builtin.min_, hr], h.setT hv' e1⟩
  · cases e

theorem boxes_ok (h : Inv X I st a w) : ∀ {l : List Operand} {Bs : List Nat}, boxesOf st l = some Bs → l.map a.eval = Bs.map fun B => boxPtr (I.γ B)
  | [], Bs, e => by cases e; rfl
  | x :: r, Bs, e => by
    obtain ⟨B, e1, e⟩ := bnd_eq e
    obtain ⟨Bs', e2, e⟩ := bnd_eq e
    cases e
    simp only [List.map_cons, boxes_ok h e2]
    congr 1
    have hx := h.ev x
    unfold boxesOf.boxOf at e1
    split at e1
    · rename_i q
      cases e1
      rw [q] at hx
      exact hx
    · cases e1

theorem evOp1_ok {env : Env} (hP : env.P = P) {F : Sems} (hF : CallsOk P env F X) {o : Oper} (h : Inv X I st a w) (e : evOp1 env F st o.dst o.op = some st') : OpWp P X o a w st' := by
  subst hP
  cases hop : o.op with
  | move x =>
    rw [hop] at e
    exact opWp_value (by simp [execOp, hop]) (h.setT (h.ev x) e)
  | assign x =>
    rw [hop] at e
    obtain ⟨I', hi⟩ := h.assign (h.ev x) e
    exact opWp_value (by simp [execOp, hop]) hi
  | pick c x y =>
    rw [hop] at e
    obtain ⟨r, hr, e1⟩ := bnd_eq e
    obtain ⟨hg, e2⟩ := ifB_some e1
    exact opWp_value (by simp only [execOp, hop]; exact pick_ok (h.ev c) (h.ev x) (h.ev y) hr hg) (h.setT (vr_one (mk_bool false r.2)) e2)
  | alloc t =>
    rw [hop] at e
    obtain ⟨v, w', I', hr, hi⟩ := evAlloc_ok (P := env.P) h e
    exact opWp_value (by simp [execOp, hop, hr]) hi
  | box t x =>
    rw [hop] at e
    obtain ⟨v, w', I', hr, hi⟩ := evBox_ok (P := env.P) h (h.ev x) e
    exact opWp_value (by simp [execOp, hop, hr]) hi
  | build t ps =>
    rw [hop] at e
    obtain ⟨sv, hs, e1⟩ := bnd_eq e
    obtain ⟨v, hr, hv⟩ := evBuild_ok (P := env.P) (qs := ps.map fun (i, x) => (i, a.eval x)) (by rw [Array.toList_map]; exact h.evParts ps.toList) hs
    exact opWp_value (by simp only [execOp, hop, Sem.run_bind, hr, Result.andThen_ok]; rfl) (h.setT hv e1)
  | buildSlice t n ps =>
    rw [hop] at e
    obtain ⟨v, w', I', hr, hi⟩ := evBuildSlice_ok (P := env.P) (qs := ps.map fun (i, x) => (i, a.eval x)) h (by rw [Array.toList_map]; exact h.evParts ps.toList) e
    exact opWp_value (by simp only [execOp, hop, Sem.run_bind, hr, Result.andThen_ok]; rfl) hi
  | load t x =>
    rw [hop] at e
    obtain ⟨sv, hs, e1⟩ := bnd_eq e
    obtain ⟨v, hr, hv⟩ := evLoad_ok (P := env.P) h (h.ev x) hs
    exact opWp_value (by simp [execOp, hop, hr]) (h.setT hv e1)
  | store t x y =>
    rw [hop] at e
    obtain ⟨s, hs, e1⟩ := bnd_eq e
    obtain ⟨w', I', hr, hi⟩ := evStore_ok (P := env.P) h (h.ev x) (h.ev y) hs
    exact opWp_skip (by simp [execOp, hop, hr]) (hi.setT (sv := .bad) trivial e1)
  | nilCheck x =>
    rw [hop] at e
    obtain ⟨hi, A, hA⟩ := evNil_ok h (h.ev x) e
    refine opWp_value ?_ hi
    simp only [execOp, hop, hA]
    rfl
  | binOp op t x y yt =>
    rw [hop] at e
    obtain ⟨sv, hs, e1⟩ := bnd_eq e
    obtain ⟨v, hr, hv⟩ := evBin_ok (P := env.P) (ox := x) (oy := y) (h.ev x) (h.ev y) hs
    exact opWp_value (by simp only [execOp, hop, Sem.run_bind] at hr ⊢; simp [hr]) (h.setT hv e1)
  | unOp op t x =>
    rw [hop] at e
    obtain ⟨sv, hs, e1⟩ := bnd_eq e
    obtain ⟨v, hr, hv⟩ := evUn_ok (P := env.P) (h.ev x) hs
    exact opWp_value (by simp [execOp, hop, hr]) (h.setT hv e1)
  | convert s t x =>
    rw [hop] at e
    obtain ⟨sv, hs, e1⟩ := bnd_eq e
    obtain ⟨v, hr, hv⟩ := evConvert_ok (P := env.P) h (h.ev x) hs
    exact opWp_value (by simp [execOp, hop, hr]) (h.setT hv e1)
  | makeFunc fn first cap =>
    rw [hop] at e
    simp only [evOp1, evMakeFunc] at e
    split at e
    · rename_i f hfirst
      obtain ⟨Bs, hB, e1⟩ := bnd_eq e
      have hf : first = #[] := by apply Array.ext'; simpa using hfirst
      subst hf
      have hc := boxes_ok h hB
      refine opWp_value (v := .func (.func f) #[] (cap.map a.eval)) (by simp [execOp, hop, Instr.makeFunc]) (h.setT (vr_one ?_) e1)
      show _ = _
      congr 1
      apply Array.ext'
      simp [hc]
    · cases e
  | makeSlice t l c =>
    rw [hop] at e
    obtain ⟨v, w', I', hr, hi⟩ := evMakeSlice_ok (P := env.P) h (h.ev l) (h.ev c) e
    exact opWp_value (by simp [execOp, hop, hr]) hi
  | slice t x lo hi mx =>
    rw [hop] at e
    obtain ⟨sv, hs, e1⟩ := bnd_eq e
    obtain ⟨v, hr, hv⟩ := evSlice_ok (P := env.P) (h.ev x) (h.evMaybe lo) (h.evMaybe hi) (h.evMaybe mx) hs
    exact opWp_value (by simp [execOp, hop, hr]) (h.setT hv e1)
  | fieldAddr t x f =>
    rw [hop] at e
    obtain ⟨sv, hs, e1⟩ := bnd_eq e
    obtain ⟨v, hr, hv⟩ := evFieldAddr_ok (P := env.P) (h.ev x) hs
    exact opWp_value (by simp [execOp, hop, hr]) (h.setT hv e1)
  | field t x f =>
    rw [hop] at e
    obtain ⟨sv, hs, e1⟩ := bnd_eq e
    obtain ⟨v, hr, hv⟩ := evField_ok (P := env.P) (h.ev x) hs
    exact opWp_value (by simp [execOp, hop, hr]) (h.setT hv e1)
  | indexAddr t x i =>
    rw [hop] at e
    obtain ⟨sv, hs, e1⟩ := bnd_eq e
    obtain ⟨v, hr, hv⟩ := evIndexAddr_ok (P := env.P) h (h.ev x) (h.ev i) hs
    exact opWp_value (by simp [execOp, hop, hr]) (h.setT hv e1)
  | index t x i =>
    rw [hop] at e
    obtain ⟨sv, hs, e1⟩ := bnd_eq e
    obtain ⟨v, hr, hv⟩ := evIndex_ok (P := env.P) (h.ev x) (h.ev i) hs
    exact opWp_value (by simp [execOp, hop, hr]) (h.setT hv e1)
  | extract x i =>
    rw [hop] at e
    obtain ⟨sv, hs, e1⟩ := bnd_eq e
    obtain ⟨v, hr, hv⟩ := evExtract_ok (P := env.P) (h.ev x) hs
    exact opWp_value (by simp [execOp, hop, hr]) (h.setT hv e1)
  | call c =>
    rw [hop] at e
    simp only [evOp1, evCall] at e
    split at e
    · rename_i f hc
      exact hF I st st' a w o c f hop hc h e
    · rename_i b hc
      obtain ⟨v, w', I', hr, hi⟩ := evBuiltin_ok (P := env.P) rfl (ty := o.type) (cs := c.args.map fun | .const _ => true | _ => false) h (h.evs c.args.toList) e
      refine opWp_value (v := v) ?_ hi
      have hargs : (List.map a.eval c.args.toList).toArray = c.args.map a.eval := by apply Array.ext'; simp
      rw [hargs] at hr
      simp only [execOp, hop, resolve, hc, Sem.run_bind, Sem.run_pure, Result.andThen_ok, invoke]
      exact hr
    · cases e
  | _ => rw [hop] at e; cases e

end Go.Ev
