/- Code: what the evaluator says of it holds. -/
import Derived.Test.YtgjinkacngkgdaaDoorEvY
namespace Go.Ev
set_option linter.unusedVariables false
set_option linter.unusedSimpArgs false

variable {X : Cx} {I : It} {st st' : St} {a : Act} {w w' : World} {T : Nat → Prop} {P : Program}

/-- a state behind a piece of code -/
def ExQ (X : Cx) (r : Ex × St) (Q : Exit → Act → World → Prop) : Prop :=
  ∀ a w I, Inv X I r.2 a w → Q (match r.1 with | .normal => .normal | .exit i => .exit i | .ret => .ret) a w

theorem Inv.loseT (h : Inv X I st a w) (l : List (Nat × Nat)) : Inv X I (st.loseT l) a w := by
  refine h.sub rfl (fun i v e => ?_) (fun i v e => e) (fun i v e => e)
  have e : aget (akeep (notIn l) st.t) i = some v := e
  rw [aget_akeep] at e
  split at e
  · exact e
  · cases e

theorem Inv.dropC (h : Inv X I st a w) (l : List (Nat × Nat)) (c : Operand) : Inv X I (Ev.dropC l st c) a w := by
  cases c with
  | tmp t =>
    simp only [Ev.dropC, ifB_ite]
    split
    · exact h
    · exact h.loseT _
  | _ => exact h

theorem evD_ok {env : Env} (hP : env.P = P) (hm : P.follows .mixedOrders = true) (hmd : env.md = []) {F : Sems} (hF : CallsOk P env F X) (hFD : CallsOkD P env F X) {ls : List (Nat × List (Nat × Nat))} {ds : List (Nat × Nat)} : ∀ (c : Code) (n : Nat) {I : It} {st : St} {a : Act} {w : World} {r : Ex × St} {Q : Exit → Act → World → Prop},
    drawsOk ds c = true → Inv X I st a w → evD env F ls ds c n st = some r → ExQ X r Q → c.wp P Q a w := by
  intro c
  induction c with
  | skip => intro n I st a w r Q hds h e hq; cases e; exact wp_skip (hq a w I h)
  | exit id => intro n I st a w r Q hds h e hq; cases e; exact wp_exit (hq a w I h)
  | ret => intro n I st a w r Q hds h e hq; cases e; exact wp_ret (hq a w I h)
  | region id ops draw =>
    intro n I st a w r Q hds h e hq
    simp only [evD, ifB_ite] at e
    split at e
    · rename_i hd
      subst hd
      obtain ⟨s, e1, e2⟩ := bnd_eq e
      cases e2
      cases hg : aget ds id with
      | none => rw [hg] at e1; cases e1
      | some m =>
        rw [hg] at e1
        simp only [drawsOk, hg, beq_iff_eq] at hds
        exact regD_ok hP hm hmd hF hFD hds h e1 fun a' w' I' hi => hq a' w' I' (hi.loseT _)
    · rename_i hd
      have hd : draw = false := by simpa using hd
      subst hd
      obtain ⟨s, e1, e2⟩ := bnd_eq e
      cases e2
      exact wp_region (evOps_ok hP hF _ _ (range_ops ops) h e1 fun a' w' I' hi => hq a' w' I' (hi.loseT _))
  | seq x y ihx ihy =>
    intro n I st a w r Q hds h e hq
    simp only [evD] at e
    obtain ⟨p, e1, e2⟩ := bnd_eq e
    obtain ⟨ex, s⟩ := p
    simp only [drawsOk, Bool.and_eq_true] at hds
    refine wp_seq (ihx n hds.1 h e1 fun a' w' I' hi => ?_)
    cases ex with
    | normal => exact ihy n hds.2 hi e2 hq
    | exit i => cases e2; exact hq a' w' I' hi
    | ret => cases e2; exact hq a' w' I' hi
  | cond c x y ihx ihy =>
    intro n I st a w r Q hds h e hq
    simp only [evD] at e
    simp only [drawsOk, Bool.and_eq_true] at hds
    have hv := h.ev c
    unfold condB at e
    split at e
    · rename_i tv t q
      rw [q] at hv
      have hb := vr_bool hv
      rw [ifB_ite] at e
      refine wp_cond hb ?_
      cases t with
      | true => exact ihx n hds.1 (h.dropC _ _) (by simpa using e) hq
      | false => exact ihy n hds.2 (h.dropC _ _) (by simpa using e) hq
    · cases e
  | block id x ih =>
    intro n I st a w r Q hds h e hq
    simp only [evD] at e
    obtain ⟨p, e1, e2⟩ := bnd_eq e
    obtain ⟨ex, s⟩ := p
    refine wp_block (ih id (by simpa [drawsOk] using hds) h e1 fun a' w' I' hi => ?_)
    cases ex with
    | normal => cases e2; exact hq a' w' I' hi
    | ret => cases e2; exact hq a' w' I' hi
    | exit i =>
      simp only [blockK, ifB_ite, beq_iff_eq] at e2
      show (if i = id then Q .normal a' w' else Q (.exit i) a' w')
      split at e2
      · rename_i hi'
        cases e2
        rw [if_pos hi']
        exact hq a' w' I' hi
      · rename_i hi'
        cases e2
        rw [if_neg hi']
        exact hq a' w' I' hi
  | loop x ih =>
    intro n I st a w r0 Q hds h e hq0
    simp only [evD] at e
    obtain ⟨r, e, e2⟩ := bnd_eq e
    simp only [exitK, Option.some.injEq] at e2
    have hq : ExQ X r Q := by
      subst e2
      exact fun a' w' I' hi => hq0 a' w' I' (hi.loseT _)
    simp only [loopD, loopG] at e
    obtain ⟨m, hm⟩ := limit_some e
    refine wp_loop_rounds m ?_
    have key : ∀ m {I : It} {st : St} {a : Act} {w : World}, Inv X I st a w → iter (evD env F ls ds x n) (St.lose (orNil (aget ls n))) m st = some r → Code.rounds P x Q m a w := by
      intro m
      induction m with
      | zero => intro I st a w _ e; cases e
      | succ m ihm =>
        intro I st a w h e
        simp only [iter] at e
        obtain ⟨p, e1, e2⟩ := bnd_eq e
        obtain ⟨ex, s⟩ := p
        rw [rounds_succ]
        refine ih n (by simpa [drawsOk] using hds) h e1 fun a' w' I' hi => ?_
        cases ex with
        | normal => exact ihm (hi.lose _) e2
        | exit i => cases e2; exact hq a' w' I' hi
        | ret => cases e2; exact hq a' w' I' hi
    exact key m (h.lose _) hm
  | _ => intro n I st a w r Q hds h e hq; cases e

end Go.Ev
