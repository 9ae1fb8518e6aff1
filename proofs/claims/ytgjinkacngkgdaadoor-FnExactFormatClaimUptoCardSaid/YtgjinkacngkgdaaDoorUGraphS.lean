/- A part of the proof: unit GraphS. -/
import Derived.Test.YtgjinkacngkgdaaDoorUGraphM
namespace Go.Ev
open Go.Proofs
set_option linter.unusedSimpArgs false
set_option linter.unusedVariables false
set_option maxRecDepth 20000
set_option maxHeartbeats 4000000
variable {G : World → Prop}
def E_s_IsGraph : Ent := ⟨40, [kG], fun t => rB (isG t.1.1 t.1.2.1) 1⟩
theorem ok_s_IsGraph (hG : GOk G) : EntOk Tryd.prog G E_s_IsGraph := by
  refine ent hG (fn := Tryd.f40) (l := [E_s_l1In]) (by kernel_rfl) (by kernel_rfl) ⟨ok_s_l1In hG, trivial⟩ ?_
  rintro ⟨⟨(n : Int), (rows : List Int), _⟩, _⟩ r hr
  show evFn env _ 40 Tryd.f40 _ = _
  rw [evFn_run fa40 rfl]
  rw [← hr]
  clear hr
  simp -implicitDefEqProofs (maxSteps := 600000) only [go_sem, List.reduceReplicate, Nat.reduceAdd, Nat.reduceSub, Nat.reduceBEq, Nat.reduceMul, Nat.reduceLT, Nat.reduceLeDiff, reduceCtorEq, Nat.reduceEqDiff, Int.reduceBEq, Int.reduceBNe, Int.reduceLT, Int.reduceLE, Int.reduceNeg, List.set_cons_zero, List.set_cons_succ, bytesOf, natsOf, E_s_l1In, E_s_IsGraph]
  rw [isG_s]
  refine part' (fun h1 => ?_) (fun h1 => ?_)
  · have : (within n 1 7 && (decide ((rows.length : Int) = n) && allFrom (rowS n rows) 0 rows.length)) = false := by
      revert h1
      cases within n 1 7 <;> simp
      intro h1 h2; exact absurd h2 h1
    rw [this]
  have hw : within n 1 7 = true := by revert h1; cases within n 1 7 <;> simp
  have hl : n = (rows.length : Int) := by revert h1; rw [hw]; simp; intro h; exact h.symm
  subst hl
  have hn0 := within_nonneg hw
  have hfu := shl_eq hw
  have hs7 := size7 hw
  rw [hw]
  simp only [decide_true, Bool.true_and]
  clear h1
  refine loop_use (σ := Int) (fun i => [(3, oi i)]) (fun _ => []) (fun _ => []) 0 rfl ?_
  intro V hfV hsV
  simp -implicitDefEqProofs only [go_sem, List.reduceReplicate, Nat.reduceAdd, Nat.reduceSub, Nat.reduceBEq, Nat.reduceMul, Nat.reduceLT, Nat.reduceLeDiff, reduceCtorEq, Nat.reduceEqDiff, Int.reduceBEq, Int.reduceBNe, Int.reduceLT, Int.reduceLE, Int.reduceNeg, List.set_cons_zero, List.set_cons_succ, bytesOf, natsOf, E_s_l1In, E_s_IsGraph, hn0, hfu, and_zero, has_fold] at hfV
  simp -implicitDefEqProofs (maxSteps := 600000) only [go_sem, List.reduceReplicate, Nat.reduceAdd, Nat.reduceSub, Nat.reduceBEq, Nat.reduceMul, Nat.reduceLT, Nat.reduceLeDiff, reduceCtorEq, Nat.reduceEqDiff, Int.reduceBEq, Int.reduceBNe, Int.reduceLT, Int.reduceLE, Int.reduceNeg, List.set_cons_zero, List.set_cons_succ, bytesOf, natsOf, E_s_l1In, E_s_IsGraph, hn0, hfu, and_zero, has_fold, hfV] at hsV
  have key : ∀ k v : Nat, v + k = rows.length → V v = rB (allFrom (rowS rows.length rows) v k) 1 := by
    intro k
    induction k with
    | zero =>
      intro v hv
      rw [hsV]
      simp -implicitDefEqProofs (maxSteps := 600000) (disch := omega) only [roomy, List.take_length, neq_t, impB_true, impB_false, impB_self, ge_iff_le, gt_iff_lt, lt_t, lt_f, le_t, le_f, eq_t, eq_f, ne_t, ne_f, nlt_t, nlt_f, nle_t, nle_f, neq_t, neq_f, wrap_id, succ_cast, Int.toNat_natCast, ifB_true, ifB_false, Bool.and_true, Bool.true_and, Bool.and_false, Bool.false_and, Bool.or_true, Bool.true_or, Bool.or_false, Bool.false_or, Bool.not_true, Bool.not_false, bnd_some, bnd_none]
      rfl
    | succ k ih =>
      intro v hv
      rw [hsV]
      simp -implicitDefEqProofs (maxSteps := 600000) (disch := omega) only [roomy, List.take_length, neq_t, impB_true, impB_false, impB_self, ge_iff_le, gt_iff_lt, lt_t, lt_f, le_t, le_f, eq_t, eq_f, ne_t, ne_f, nlt_t, nlt_f, nle_t, nle_f, neq_t, neq_f, wrap_id, succ_cast, Int.toNat_natCast, ifB_true, ifB_false, Bool.and_true, Bool.true_and, Bool.and_false, Bool.false_and, Bool.or_true, Bool.true_or, Bool.or_false, Bool.false_or, Bool.not_true, Bool.not_false, bnd_some, bnd_none, ih (v + 1) (by omega)]
      simp only [allFrom, rowS, okIn]
      refine part' (fun h => ?_) (fun h => ?_)
      · have : (okIn rows.length rows[v]! && (!has rows[v]! v && allFrom (rowS2 rows.length rows v) 0 rows.length)) = false := by
          revert h
          unfold okIn
          cases decide (rows[v]! < 0) <;> cases decide (full (rows.length : Int) + 1 ≤ rows[v]!) <;> cases has rows[v]! v <;> simp
        have e := this
        unfold okIn at e
        rw [e]; rfl
      have hok : okIn rows.length rows[v]! = true ∧ has rows[v]! v = false := by
        revert h
        unfold okIn
        cases decide (rows[v]! < 0) <;> cases decide (full (rows.length : Int) + 1 ≤ rows[v]!) <;> cases has rows[v]! v <;> simp
      have hok1 := hok.1
      unfold okIn at hok1
      rw [hok1, hok.2]
      clear h hok hok1
      refine loop_use (σ := Int) (fun i => [(4, oi i)]) (fun _ => []) (fun _ => []) 0 rfl ?_
      intro W hfW hsW
      simp -implicitDefEqProofs only [go_sem, List.reduceReplicate, Nat.reduceAdd, Nat.reduceSub, Nat.reduceBEq, Nat.reduceMul, Nat.reduceLT, Nat.reduceLeDiff, reduceCtorEq, Nat.reduceEqDiff, Int.reduceBEq, Int.reduceBNe, Int.reduceLT, Int.reduceLE, Int.reduceNeg, List.set_cons_zero, List.set_cons_succ, bytesOf, natsOf, E_s_l1In, E_s_IsGraph, hfV, hn0, hfu, and_zero, has_fold] at hfW
      simp -implicitDefEqProofs (maxSteps := 600000) only [go_sem, List.reduceReplicate, Nat.reduceAdd, Nat.reduceSub, Nat.reduceBEq, Nat.reduceMul, Nat.reduceLT, Nat.reduceLeDiff, reduceCtorEq, Nat.reduceEqDiff, Int.reduceBEq, Int.reduceBNe, Int.reduceLT, Int.reduceLE, Int.reduceNeg, List.set_cons_zero, List.set_cons_succ, bytesOf, natsOf, E_s_l1In, E_s_IsGraph, hfV, hn0, hfu, and_zero, has_fold, hfW] at hsW
      clear hfW hfV hsV
      have key : ∀ k' u : Nat, u + k' = rows.length → W u = rB (allFrom (rowS2 rows.length rows v) u k' && allFrom (rowS rows.length rows) (v + 1) k) 1 := by
        intro k'
        induction k' with
        | zero =>
          intro u hu
          rw [hsW]
          simp -implicitDefEqProofs (maxSteps := 600000) (disch := omega) only [roomy, List.take_length, neq_t, impB_true, impB_false, impB_self, ge_iff_le, gt_iff_lt, lt_t, lt_f, le_t, le_f, eq_t, eq_f, ne_t, ne_f, nlt_t, nlt_f, nle_t, nle_f, neq_t, neq_f, wrap_id, succ_cast, Int.toNat_natCast, ifB_true, ifB_false, Bool.and_true, Bool.true_and, Bool.and_false, Bool.false_and, Bool.or_true, Bool.true_or, Bool.or_false, Bool.false_or, Bool.not_true, Bool.not_false, bnd_some, bnd_none, ih (v + 1) (by omega)]
          rfl
        | succ k' ih' =>
          intro u hu
          rw [hsW]
          simp -implicitDefEqProofs (maxSteps := 600000) (disch := omega) only [roomy, List.take_length, neq_t, impB_true, impB_false, impB_self, ge_iff_le, gt_iff_lt, lt_t, lt_f, le_t, le_f, eq_t, eq_f, ne_t, ne_f, nlt_t, nlt_f, nle_t, nle_f, neq_t, neq_f, wrap_id, succ_cast, Int.toNat_natCast, ifB_true, ifB_false, Bool.and_true, Bool.true_and, Bool.and_false, Bool.false_and, Bool.or_true, Bool.true_or, Bool.or_false, Bool.false_or, Bool.not_true, Bool.not_false, bnd_some, bnd_none, ih' (u + 1) (by omega), allFrom, rowS2, okIn]
          clear ih ih' hsW
          cases has rows[v]! u <;> cases decide (rows[u]! < 0) <;> cases decide (full (rows.length : Int) + 1 ≤ rows[u]!) <;> cases has rows[u]! v <;> simp [ifB, rB, impB]
      simpa using key rows.length 0 (by omega)
  exact key rows.length 0 (by omega)
end Go.Ev
