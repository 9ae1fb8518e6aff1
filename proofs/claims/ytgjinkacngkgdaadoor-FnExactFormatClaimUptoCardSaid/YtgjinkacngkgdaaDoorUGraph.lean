/- A part of the proof: unit Graph. -/
import Derived.Test.YtgjinkacngkgdaaDoorUNum
namespace Go.Ev
open Go.Proofs
set_option linter.unusedSimpArgs false
set_option linter.unusedVariables false
set_option maxRecDepth 20000
set_option maxHeartbeats 4000000
variable {G : World → Prop}
theorem allFrom_iff {p : Nat → Bool} : ∀ {k i : Nat}, allFrom p i k = true ↔ ∀ j, i ≤ j → j < i + k → p j = true := by
  intro k
  induction k with
  | zero => intro i; exact ⟨fun _ j h1 h2 => by omega, fun _ => rfl⟩
  | succ k ih =>
    intro i
    simp only [allFrom, Bool.and_eq_true, ih]
    constructor
    · rintro ⟨h1, h2⟩ j hj1 hj2
      by_cases h : j = i
      · subst h; exact h1
      · exact h2 j (by omega) (by omega)
    · intro h
      exact ⟨h i (by omega) (by omega), fun j h1 h2 => h j (by omega) (by omega)⟩
def has (s v : Int) : Bool := bitsV .and .i64 (shrV .i64 s v) 1 == 1
def E_i_has : Ent := ⟨44, [I64, I64], fun t => ifB (decide (t.2.1 < 0)) none (rB (has t.1 t.2.1) 2)⟩
theorem ok_i_has (hG : GOk G) : EntOk Tryd.prog G E_i_has := by
  refine ent hG (fn := Tryd.f44) (l := []) (by kernel_rfl) (by kernel_rfl) trivial ?_
  rintro ⟨s, v, _⟩ r hr
  show evFn env _ 44 Tryd.f44 _ = _
  rw [evFn_run fa44 rfl]
  rw [← hr]
  simp -implicitDefEqProofs (maxSteps := 600000) only [go_sem, List.reduceReplicate, Nat.reduceAdd, Nat.reduceSub, Nat.reduceBEq, Nat.reduceMul, Nat.reduceLT, Nat.reduceLeDiff, reduceCtorEq, Nat.reduceEqDiff, Int.reduceBEq, Int.reduceBNe, Int.reduceLT, Int.reduceLE, Int.reduceNeg, List.set_cons_zero, List.set_cons_succ, bytesOf, natsOf, E_i_has, has]
def full (n : Int) : Int := 2 ^ n.toNat - 1
theorem size7 {n : Int} (h : within n 1 7 = true) : 1 ≤ n ∧ n ≤ 7 := by simpa [within] using h
theorem full_eq {n : Int} (h : within n 1 7 = true) : IntKind.i64.wrap (shlV .i64 1 n - 1) = full n := by
  have := size7 h
  have : n = 1 ∨ n = 2 ∨ n = 3 ∨ n = 4 ∨ n = 5 ∨ n = 6 ∨ n = 7 := by omega
  rcases this with rfl | rfl | rfl | rfl | rfl | rfl | rfl <;> rfl
theorem shl_eq {n : Int} (h : within n 1 7 = true) : shlV .i64 1 n = full n + 1 := by
  have := size7 h
  have : n = 1 ∨ n = 2 ∨ n = 3 ∨ n = 4 ∨ n = 5 ∨ n = 6 ∨ n = 7 := by omega
  rcases this with rfl | rfl | rfl | rfl | rfl | rfl | rfl <;> rfl
theorem within_nonneg {n : Int} (h : within n 1 7 = true) : decide (n < 0) = false := by
  have := size7 h
  exact lt_f (by omega)
def rowOk (n : Int) (rows : List Int) (v : Nat) : Bool := within rows[v]! 0 (full n) && !has rows[v]! v
def symOk (rows : List Int) (v : Nat) : Bool := allFrom (fun w => has rows[v]! w == has rows[w]! v) 0 v
def isG (n : Int) (rows : List Int) : Bool := within n 1 7 && (decide ((rows.length : Int) = n) && (allFrom (rowOk n rows) 0 rows.length && allFrom (symOk rows) 0 rows.length))
def E_i_IsGraph : Ent := ⟨26, [kG], fun t => rB (isG t.1.1 t.1.2.1) 1⟩
theorem ok_i_IsGraph (hG : GOk G) : EntOk Tryd.prog G E_i_IsGraph := by
  refine ent hG (fn := Tryd.f26) (l := [E_i_within, E_i_has]) (by kernel_rfl) (by kernel_rfl) ⟨ok_i_within hG, ⟨ok_i_has hG, trivial⟩⟩ ?_
  rintro ⟨⟨(n : Int), (rows : List Int), _⟩, _⟩ r hr
  show evFn env _ 26 Tryd.f26 _ = _
  rw [evFn_run fa26 rfl]
  rw [← hr]
  clear hr
  simp -implicitDefEqProofs (maxSteps := 600000) only [go_sem, List.reduceReplicate, Nat.reduceAdd, Nat.reduceSub, Nat.reduceBEq, Nat.reduceMul, Nat.reduceLT, Nat.reduceLeDiff, reduceCtorEq, Nat.reduceEqDiff, Int.reduceBEq, Int.reduceBNe, Int.reduceLT, Int.reduceLE, Int.reduceNeg, List.set_cons_zero, List.set_cons_succ, bytesOf, natsOf, E_i_within, E_i_has, E_i_IsGraph]
  refine part' (fun h1 => ?_) (fun h1 => ?_)
  · have : isG n rows = false := by
      revert h1; unfold isG
      cases within n 1 7 <;> simp
      intro h1 h2; exact absurd h2 h1
    rw [this]
  have hw : within n 1 7 = true := by revert h1; cases within n 1 7 <;> simp
  have hl : (rows.length : Int) = n := by revert h1; rw [hw]; simp
  have hn : rows.length ≤ 7 := by have := size7 hw; omega
  have e : isG n rows = (allFrom (rowOk n rows) 0 rows.length && allFrom (symOk rows) 0 rows.length) := by simp [isG, hw, hl]
  rw [e]
  have hn0 := within_nonneg hw
  have hfu := full_eq hw
  refine loop_use (σ := Int) (fun i => [(23, oi i)]) (fun _ => []) (fun _ => []) 0 rfl ?_
  intro V hfV hsV
  simp -implicitDefEqProofs only [go_sem, List.reduceReplicate, Nat.reduceAdd, Nat.reduceSub, Nat.reduceBEq, Nat.reduceMul, Nat.reduceLT, Nat.reduceLeDiff, reduceCtorEq, Nat.reduceEqDiff, Int.reduceBEq, Int.reduceBNe, Int.reduceLT, Int.reduceLE, Int.reduceNeg, List.set_cons_zero, List.set_cons_succ, bytesOf, natsOf, E_i_within, E_i_has, E_i_IsGraph, hn0, hfu] at hfV
  simp -implicitDefEqProofs (maxSteps := 600000) only [go_sem, List.reduceReplicate, Nat.reduceAdd, Nat.reduceSub, Nat.reduceBEq, Nat.reduceMul, Nat.reduceLT, Nat.reduceLeDiff, reduceCtorEq, Nat.reduceEqDiff, Int.reduceBEq, Int.reduceBNe, Int.reduceLT, Int.reduceLE, Int.reduceNeg, List.set_cons_zero, List.set_cons_succ, bytesOf, natsOf, E_i_within, E_i_has, E_i_IsGraph, hn0, hfu, hfV] at hsV
  clear hfV
  have key : ∀ k v : Nat, v + k = rows.length → V v = rB (allFrom (rowOk n rows) v k && allFrom (symOk rows) 0 rows.length) 1 := by
    intro k
    induction k with
    | zero =>
      intro v hv
      rw [hsV]
      simp -implicitDefEqProofs (maxSteps := 600000) (disch := omega) only [roomy, List.take_length, neq_t, impB_true, impB_false, impB_self, ge_iff_le, gt_iff_lt, lt_t, lt_f, le_t, le_f, eq_t, eq_f, ne_t, ne_f, nlt_t, nlt_f, nle_t, nle_f, neq_t, neq_f, wrap_id, succ_cast, Int.toNat_natCast, ifB_true, ifB_false, Bool.and_true, Bool.true_and, Bool.and_false, Bool.false_and, Bool.or_true, Bool.true_or, Bool.or_false, Bool.false_or, Bool.not_true, Bool.not_false, bnd_some, bnd_none]
      clear hsV
      refine loop_use (σ := Int) (fun i => [(44, oi i)]) (fun _ => []) (fun _ => []) 0 rfl ?_
      intro W hfW hsW
      simp -implicitDefEqProofs only [go_sem, List.reduceReplicate, Nat.reduceAdd, Nat.reduceSub, Nat.reduceBEq, Nat.reduceMul, Nat.reduceLT, Nat.reduceLeDiff, reduceCtorEq, Nat.reduceEqDiff, Int.reduceBEq, Int.reduceBNe, Int.reduceLT, Int.reduceLE, Int.reduceNeg, List.set_cons_zero, List.set_cons_succ, bytesOf, natsOf, E_i_within, E_i_has, E_i_IsGraph] at hfW
      simp -implicitDefEqProofs (maxSteps := 600000) only [go_sem, List.reduceReplicate, Nat.reduceAdd, Nat.reduceSub, Nat.reduceBEq, Nat.reduceMul, Nat.reduceLT, Nat.reduceLeDiff, reduceCtorEq, Nat.reduceEqDiff, Int.reduceBEq, Int.reduceBNe, Int.reduceLT, Int.reduceLE, Int.reduceNeg, List.set_cons_zero, List.set_cons_succ, bytesOf, natsOf, E_i_within, E_i_has, E_i_IsGraph, hfW] at hsW
      have key : ∀ k v : Nat, v + k = rows.length → W v = rB (allFrom (symOk rows) v k) 1 := by
        intro k
        induction k with
        | zero =>
          intro v hv
          rw [hsW]
          simp -implicitDefEqProofs (maxSteps := 600000) (disch := omega) only [roomy, List.take_length, neq_t, impB_true, impB_false, impB_self, ge_iff_le, gt_iff_lt, lt_t, lt_f, le_t, le_f, eq_t, eq_f, ne_t, ne_f, nlt_t, nlt_f, nle_t, nle_f, neq_t, neq_f, wrap_id, succ_cast, Int.toNat_natCast, ifB_true, ifB_false, Bool.and_true, Bool.true_and, Bool.and_false, Bool.false_and, Bool.or_true, Bool.true_or, Bool.or_false, Bool.false_or, Bool.not_true, Bool.not_false, bnd_some, bnd_none]
          rfl
        | succ k ih =>
          intro v hv
          rw [hsW]
          simp -implicitDefEqProofs (maxSteps := 600000) (disch := omega) only [roomy, List.take_length, neq_t, impB_true, impB_false, impB_self, ge_iff_le, gt_iff_lt, lt_t, lt_f, le_t, le_f, eq_t, eq_f, ne_t, ne_f, nlt_t, nlt_f, nle_t, nle_f, neq_t, neq_f, wrap_id, succ_cast, Int.toNat_natCast, ifB_true, ifB_false, Bool.and_true, Bool.true_and, Bool.and_false, Bool.false_and, Bool.or_true, Bool.true_or, Bool.or_false, Bool.false_or, Bool.not_true, Bool.not_false, bnd_some, bnd_none]
          refine loop_use (σ := Int) (fun i => [(50, oi i)]) (fun _ => []) (fun _ => []) 0 rfl ?_
          intro U hfU hsU
          simp -implicitDefEqProofs only [go_sem, List.reduceReplicate, Nat.reduceAdd, Nat.reduceSub, Nat.reduceBEq, Nat.reduceMul, Nat.reduceLT, Nat.reduceLeDiff, reduceCtorEq, Nat.reduceEqDiff, Int.reduceBEq, Int.reduceBNe, Int.reduceLT, Int.reduceLE, Int.reduceNeg, List.set_cons_zero, List.set_cons_succ, bytesOf, natsOf, E_i_within, E_i_has, E_i_IsGraph, hfW] at hfU
          simp -implicitDefEqProofs (maxSteps := 600000) only [go_sem, List.reduceReplicate, Nat.reduceAdd, Nat.reduceSub, Nat.reduceBEq, Nat.reduceMul, Nat.reduceLT, Nat.reduceLeDiff, reduceCtorEq, Nat.reduceEqDiff, Int.reduceBEq, Int.reduceBNe, Int.reduceLT, Int.reduceLE, Int.reduceNeg, List.set_cons_zero, List.set_cons_succ, bytesOf, natsOf, E_i_within, E_i_has, E_i_IsGraph, hfW, hfU] at hsU
          clear hfW hfU hsW
          have key : ∀ k' u : Nat, u + k' = v → U u = rB (allFrom (fun w => has rows[v]! w == has rows[w]! v) u k' && allFrom (symOk rows) (v + 1) k) 1 := by
            intro k'
            induction k' with
            | zero =>
              intro u hu
              rw [hsU]
              simp -implicitDefEqProofs (maxSteps := 600000) (disch := omega) only [roomy, List.take_length, neq_t, impB_true, impB_false, impB_self, ge_iff_le, gt_iff_lt, lt_t, lt_f, le_t, le_f, eq_t, eq_f, ne_t, ne_f, nlt_t, nlt_f, nle_t, nle_f, neq_t, neq_f, wrap_id, succ_cast, Int.toNat_natCast, ifB_true, ifB_false, Bool.and_true, Bool.true_and, Bool.and_false, Bool.false_and, Bool.or_true, Bool.true_or, Bool.or_false, Bool.false_or, Bool.not_true, Bool.not_false, bnd_some, bnd_none, ih (v + 1) (by omega)]
              rfl
            | succ k' ih' =>
              intro u hu
              rw [hsU]
              simp -implicitDefEqProofs (maxSteps := 600000) (disch := omega) only [roomy, List.take_length, neq_t, impB_true, impB_false, impB_self, ge_iff_le, gt_iff_lt, lt_t, lt_f, le_t, le_f, eq_t, eq_f, ne_t, ne_f, nlt_t, nlt_f, nle_t, nle_f, neq_t, neq_f, wrap_id, succ_cast, Int.toNat_natCast, ifB_true, ifB_false, Bool.and_true, Bool.true_and, Bool.and_false, Bool.false_and, Bool.or_true, Bool.true_or, Bool.or_false, Bool.false_or, Bool.not_true, Bool.not_false, bnd_some, bnd_none, ih' (u + 1) (by omega), allFrom]
              clear ih ih' hsU
              cases has rows[v]! u <;> cases has rows[u]! v <;> simp [ifB, rB]
          exact key v 0 (by omega)
      exact key rows.length 0 (by omega)
    | succ k ih =>
      intro v hv
      rw [hsV]
      simp -implicitDefEqProofs (maxSteps := 600000) (disch := omega) only [roomy, List.take_length, neq_t, impB_true, impB_false, impB_self, ge_iff_le, gt_iff_lt, lt_t, lt_f, le_t, le_f, eq_t, eq_f, ne_t, ne_f, nlt_t, nlt_f, nle_t, nle_f, neq_t, neq_f, wrap_id, succ_cast, Int.toNat_natCast, ifB_true, ifB_false, Bool.and_true, Bool.true_and, Bool.and_false, Bool.false_and, Bool.or_true, Bool.true_or, Bool.or_false, Bool.false_or, Bool.not_true, Bool.not_false, bnd_some, bnd_none, ih (v + 1) (by omega)]
      simp only [allFrom, rowOk]
      clear hsV ih
      cases within rows[v]! 0 (full n) <;> cases has rows[v]! v <;> simp only [impB_true, impB_false, impB_self, Bool.not_true, Bool.not_false, Bool.and_true, Bool.true_and, Bool.and_false, Bool.false_and, Bool.or_true, Bool.true_or, Bool.or_false, Bool.false_or, ifB_true, ifB_false, bnd_some, bnd_none] <;> rfl
  exact key rows.length 0 (by omega)
end Go.Ev
