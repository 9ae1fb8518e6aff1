/- A part of the proof: unit Edges. -/
import Derived.Test.YtgjinkacngkgdaaDoorUGraphS
import Derived.Test.YtgjinkacngkgdaaDoorUText
import Derived.Test.YtgjinkacngkgdaaDoorUEdgesM
namespace Go.Ev
open Go.Proofs
set_option linter.unusedSimpArgs false
set_option linter.unusedVariables false
set_option maxRecDepth 20000
set_option maxHeartbeats 4000000
variable {G : World → Prop}
@[go_sem] def rLL (l : List (List Int)) (n : Nat) : Option Res := some ⟨[(⟨LLI, l⟩, .own)], List.replicate n none⟩
def E_s_l2Edge : Ent := ⟨55, [kG, I64, I64], fun t => ifB (decide (0 ≤ t.2.1) && decide (t.2.1 < t.1.2.1.length) && decide (t.2.1.toNat < t.1.2.1.length) && !decide (t.2.2.1 < 0)) (rB (has t.1.2.1[t.2.1.toNat]! t.2.2.1) 3) none⟩
theorem ok_s_l2Edge (hG : GOk G) : EntOk Tryd.prog G E_s_l2Edge := by
  refine ent hG (fn := Tryd.f55) (l := []) (by kernel_rfl) (by kernel_rfl) trivial ?_
  rintro ⟨⟨(n : Int), (rows : List Int), _⟩, (v : Int), (w : Int), _⟩ r hr
  show evFn env _ 55 Tryd.f55 _ = _
  rw [evFn_run fa55 rfl]
  rw [← hr]
  clear hr
  simp -implicitDefEqProofs (maxSteps := 600000) only [go_sem, List.reduceReplicate, Nat.reduceAdd, Nat.reduceSub, Nat.reduceBEq, Nat.reduceMul, Nat.reduceLT, Nat.reduceLeDiff, reduceCtorEq, Nat.reduceEqDiff, Int.reduceBEq, Int.reduceBNe, Int.reduceLT, Int.reduceLE, Int.reduceNeg, List.set_cons_zero, List.set_cons_succ, bytesOf, natsOf, E_s_l2Edge, has_fold]
def E_i_EdgesOf : Ent := ⟨46, [kG], fun t => rLL (edgesOf t.1.1 t.1.2.1) 1⟩
theorem ok_i_EdgesOf (hG : GOk G) : EntOk Tryd.prog G E_i_EdgesOf := by
  refine ent hG (fn := Tryd.f46) (l := [E_i_IsGraph, E_i_has]) (by kernel_rfl) (by kernel_rfl) ⟨ok_i_IsGraph hG, ⟨ok_i_has hG, trivial⟩⟩ ?_
  rintro ⟨⟨(n : Int), (rows : List Int), _⟩, _⟩ r hr
  show evFn env _ 46 Tryd.f46 _ = _
  rw [evFn_run fa46 rfl]
  rw [← hr]
  clear hr
  simp -implicitDefEqProofs (maxSteps := 600000) only [go_sem, List.reduceReplicate, Nat.reduceAdd, Nat.reduceSub, Nat.reduceBEq, Nat.reduceMul, Nat.reduceLT, Nat.reduceLeDiff, reduceCtorEq, Nat.reduceEqDiff, Int.reduceBEq, Int.reduceBNe, Int.reduceLT, Int.reduceLE, Int.reduceNeg, List.set_cons_zero, List.set_cons_succ, bytesOf, natsOf, E_i_IsGraph, E_i_has, E_i_EdgesOf]
  refine part' (fun h1 => ?_) (fun h1 => ?_)
  · have : isG n rows = false := by simpa using h1
    rw [edgesOf, this]; rfl
  have hg : isG n rows = true := by simpa using h1
  obtain ⟨hw, hl, h7, h8⟩ := isG_spec hg
  subst hl
  refine loop_use (σ := Int × Nat × List (List Int)) (fun s => [(15, oi s.1), (3, .one (.hdr LI 3000 0 s.2.1))]) (fun s => [(3000, ⟨LI, s.2.2⟩)]) (fun _ => []) (0, 0, []) rfl ?_
  intro V hfV hsV
  replace hfV := fun (x1 : Int) (x2 : Nat) (x3 : List (List Int)) => hfV (x1, x2, x3)
  replace hsV := fun (x1 : Int) (x2 : Nat) (x3 : List (List Int)) => hsV (x1, x2, x3)
  simp -implicitDefEqProofs only [go_sem, List.reduceReplicate, Nat.reduceAdd, Nat.reduceSub, Nat.reduceBEq, Nat.reduceMul, Nat.reduceLT, Nat.reduceLeDiff, reduceCtorEq, Nat.reduceEqDiff, Int.reduceBEq, Int.reduceBNe, Int.reduceLT, Int.reduceLE, Int.reduceNeg, List.set_cons_zero, List.set_cons_succ, bytesOf, natsOf, E_i_IsGraph, E_i_has, E_i_EdgesOf] at hfV
  simp -implicitDefEqProofs (maxSteps := 600000) only [go_sem, List.reduceReplicate, Nat.reduceAdd, Nat.reduceSub, Nat.reduceBEq, Nat.reduceMul, Nat.reduceLT, Nat.reduceLeDiff, reduceCtorEq, Nat.reduceEqDiff, Int.reduceBEq, Int.reduceBNe, Int.reduceLT, Int.reduceLE, Int.reduceNeg, List.set_cons_zero, List.set_cons_succ, bytesOf, natsOf, E_i_IsGraph, E_i_has, E_i_EdgesOf, hfV] at hsV
  have key : ∀ k v : Nat, ∀ x : List (List Int), v + k = rows.length → x.length ≤ 7 * v → V ((v : Int), x.length, x) = rLL (x ++ edgesK rows rows.length v k) 1 := by
    intro k
    induction k with
    | zero =>
      intro v x hv hx
      rw [hsV]
      simp -implicitDefEqProofs (maxSteps := 600000) (disch := omega) only [roomy, List.take_length, neq_t, impB_true, impB_false, impB_self, ge_iff_le, gt_iff_lt, lt_t, lt_f, le_t, le_f, eq_t, eq_f, ne_t, ne_f, nlt_t, nlt_f, nle_t, nle_f, neq_t, neq_f, wrap_id, succ_cast, Int.toNat_natCast, ifB_true, ifB_false, Bool.and_true, Bool.true_and, Bool.and_false, Bool.false_and, Bool.or_true, Bool.true_or, Bool.or_false, Bool.false_or, Bool.not_true, Bool.not_false, bnd_some, bnd_none]
      simp only [edgesK, List.append_nil]
      rfl
    | succ k ih =>
      intro v x hv hx
      rw [hsV]
      simp -implicitDefEqProofs (maxSteps := 600000) (disch := omega) only [roomy, List.take_length, neq_t, impB_true, impB_false, impB_self, ge_iff_le, gt_iff_lt, lt_t, lt_f, le_t, le_f, eq_t, eq_f, ne_t, ne_f, nlt_t, nlt_f, nle_t, nle_f, neq_t, neq_f, wrap_id, succ_cast, Int.toNat_natCast, ifB_true, ifB_false, Bool.and_true, Bool.true_and, Bool.and_false, Bool.false_and, Bool.or_true, Bool.true_or, Bool.or_false, Bool.false_or, Bool.not_true, Bool.not_false, bnd_some, bnd_none]
      refine loop_use (σ := Int × Nat × List (List Int)) (fun s => [(6, oi s.1), (3, .one (.hdr LI 3000 0 s.2.1))]) (fun s => [(3000, ⟨LI, s.2.2⟩)]) (fun _ => []) (((v + 1 : Nat) : Int), x.length, x) rfl ?_
      intro W hfW hsW
      replace hfW := fun (x1 : Int) (x2 : Nat) (x3 : List (List Int)) => hfW (x1, x2, x3)
      replace hsW := fun (x1 : Int) (x2 : Nat) (x3 : List (List Int)) => hsW (x1, x2, x3)
      simp -implicitDefEqProofs only [go_sem, List.reduceReplicate, Nat.reduceAdd, Nat.reduceSub, Nat.reduceBEq, Nat.reduceMul, Nat.reduceLT, Nat.reduceLeDiff, reduceCtorEq, Nat.reduceEqDiff, Int.reduceBEq, Int.reduceBNe, Int.reduceLT, Int.reduceLE, Int.reduceNeg, List.set_cons_zero, List.set_cons_succ, bytesOf, natsOf, E_i_IsGraph, E_i_has, E_i_EdgesOf, hfV] at hfW
      simp -implicitDefEqProofs (maxSteps := 600000) only [go_sem, List.reduceReplicate, Nat.reduceAdd, Nat.reduceSub, Nat.reduceBEq, Nat.reduceMul, Nat.reduceLT, Nat.reduceLeDiff, reduceCtorEq, Nat.reduceEqDiff, Int.reduceBEq, Int.reduceBNe, Int.reduceLT, Int.reduceLE, Int.reduceNeg, List.set_cons_zero, List.set_cons_succ, bytesOf, natsOf, E_i_IsGraph, E_i_has, E_i_EdgesOf, hfV, hfW] at hsW
      clear hfW hfV hsV
      have key2 : ∀ k' w : Nat, ∀ x : List (List Int), w + k' = rows.length → x.length ≤ 7 * v + w → W ((w : Int), x.length, x) = rLL (x ++ rowEdges rows v w k' ++ edgesK rows rows.length (v + 1) k) 1 := by
        intro k'
        induction k' with
        | zero =>
          intro w x hw hx
          rw [hsW]
          simp -implicitDefEqProofs (maxSteps := 600000) (disch := omega) only [roomy, List.take_length, neq_t, impB_true, impB_false, impB_self, ge_iff_le, gt_iff_lt, lt_t, lt_f, le_t, le_f, eq_t, eq_f, ne_t, ne_f, nlt_t, nlt_f, nle_t, nle_f, neq_t, neq_f, wrap_id, succ_cast, Int.toNat_natCast, ifB_true, ifB_false, Bool.and_true, Bool.true_and, Bool.and_false, Bool.false_and, Bool.or_true, Bool.true_or, Bool.or_false, Bool.false_or, Bool.not_true, Bool.not_false, bnd_some, bnd_none]
          simp only [rowEdges, List.append_nil]
          exact ih (v + 1) x (by omega) (by omega)
        | succ k' ih' =>
          intro w x hw hx
          rw [hsW]
          simp only [rowEdges]
          have e1 := ih' (w + 1) x (by omega) (by omega)
          have e2 := ih' (w + 1) (x ++ [[(v : Int), (w : Int)]]) (by omega) (by simp; omega)
          rw [List.length_append, List.length_singleton, List.append_assoc, List.append_assoc] at e2
          simp -implicitDefEqProofs (maxSteps := 600000) (disch := omega) only [roomy, List.take_length, neq_t, impB_true, impB_false, impB_self, ge_iff_le, gt_iff_lt, lt_t, lt_f, le_t, le_f, eq_t, eq_f, ne_t, ne_f, nlt_t, nlt_f, nle_t, nle_f, neq_t, neq_f, wrap_id, succ_cast, Int.toNat_natCast, ifB_true, ifB_false, Bool.and_true, Bool.true_and, Bool.and_false, Bool.false_and, Bool.or_true, Bool.true_or, Bool.or_false, Bool.false_or, Bool.not_true, Bool.not_false, bnd_some, bnd_none]
          cases has rows[v]! w
          · simp only [impB_true, impB_false, impB_self, Bool.not_true, Bool.not_false, Bool.and_true, Bool.true_and, Bool.and_false, Bool.false_and, Bool.or_true, Bool.true_or, Bool.or_false, Bool.false_or, ifB_true, ifB_false, bnd_some, bnd_none]
            rw [List.nil_append]
            exact e1
          · simp only [impB_true, impB_false, impB_self, Bool.not_true, Bool.not_false, Bool.and_true, Bool.true_and, Bool.and_false, Bool.false_and, Bool.or_true, Bool.true_or, Bool.or_false, Bool.false_or, ifB_true, ifB_false, bnd_some, bnd_none]
            rw [List.append_assoc, List.append_assoc]
            exact e2
      simp only [edgesK]
      rw [← List.append_assoc, show rows.length - (v + 1) = k by omega]
      exact key2 k (v + 1) x (by omega) (by omega)
  rw [edgesOf, hg, ifB_true]
  simpa [rLL] using key rows.length 0 [] (by omega) (by simp)
def E_s_EdgesOf : Ent := ⟨42, [kG], fun t => rLL (edgesOf t.1.1 t.1.2.1) 1⟩
theorem ok_s_EdgesOf (hG : GOk G) : EntOk Tryd.prog G E_s_EdgesOf := by
  refine ent hG (fn := Tryd.f42) (l := [E_s_IsGraph, E_s_l2Edge]) (by kernel_rfl) (by kernel_rfl) ⟨ok_s_IsGraph hG, ⟨ok_s_l2Edge hG, trivial⟩⟩ ?_
  rintro ⟨⟨(n : Int), (rows : List Int), _⟩, _⟩ r hr
  show evFn env _ 42 Tryd.f42 _ = _
  rw [evFn_run fa42 rfl]
  rw [← hr]
  clear hr
  simp -implicitDefEqProofs (maxSteps := 600000) only [go_sem, List.reduceReplicate, Nat.reduceAdd, Nat.reduceSub, Nat.reduceBEq, Nat.reduceMul, Nat.reduceLT, Nat.reduceLeDiff, reduceCtorEq, Nat.reduceEqDiff, Int.reduceBEq, Int.reduceBNe, Int.reduceLT, Int.reduceLE, Int.reduceNeg, List.set_cons_zero, List.set_cons_succ, bytesOf, natsOf, E_s_IsGraph, E_s_l2Edge, E_s_EdgesOf]
  cases hg : isG n rows with
  | false =>
    rw [edgesOf, hg, ifB_false]
    refine loop_use (σ := Int × Nat × List (List Int)) (fun s => [(4, oi s.1), (3, .one (.hdr LI 3000 0 s.2.1))]) (fun s => [(3000, ⟨LI, s.2.2⟩)]) (fun _ => []) (0, 0, []) rfl ?_
    intro V hfV hsV
    replace hfV := fun (x1 : Int) (x2 : Nat) (x3 : List (List Int)) => hfV (x1, x2, x3)
    replace hsV := fun (x1 : Int) (x2 : Nat) (x3 : List (List Int)) => hsV (x1, x2, x3)
    simp -implicitDefEqProofs only [go_sem, List.reduceReplicate, Nat.reduceAdd, Nat.reduceSub, Nat.reduceBEq, Nat.reduceMul, Nat.reduceLT, Nat.reduceLeDiff, reduceCtorEq, Nat.reduceEqDiff, Int.reduceBEq, Int.reduceBNe, Int.reduceLT, Int.reduceLE, Int.reduceNeg, List.set_cons_zero, List.set_cons_succ, bytesOf, natsOf, E_s_IsGraph, E_s_l2Edge, E_s_EdgesOf, hg] at hfV
    simp -implicitDefEqProofs (maxSteps := 600000) only [go_sem, List.reduceReplicate, Nat.reduceAdd, Nat.reduceSub, Nat.reduceBEq, Nat.reduceMul, Nat.reduceLT, Nat.reduceLeDiff, reduceCtorEq, Nat.reduceEqDiff, Int.reduceBEq, Int.reduceBNe, Int.reduceLT, Int.reduceLE, Int.reduceNeg, List.set_cons_zero, List.set_cons_succ, bytesOf, natsOf, E_s_IsGraph, E_s_l2Edge, E_s_EdgesOf, hg, hfV] at hsV
    rw [hsV]
    cases decide (0 < n) <;> rfl
  | true =>
    obtain ⟨hw, hl, h7, h8⟩ := isG_spec hg
    subst hl
    refine loop_use (σ := Int × Nat × List (List Int)) (fun s => [(4, oi s.1), (3, .one (.hdr LI 3000 0 s.2.1))]) (fun s => [(3000, ⟨LI, s.2.2⟩)]) (fun _ => []) (0, 0, []) rfl ?_
    intro V hfV hsV
    replace hfV := fun (x1 : Int) (x2 : Nat) (x3 : List (List Int)) => hfV (x1, x2, x3)
    replace hsV := fun (x1 : Int) (x2 : Nat) (x3 : List (List Int)) => hsV (x1, x2, x3)
    simp -implicitDefEqProofs only [go_sem, List.reduceReplicate, Nat.reduceAdd, Nat.reduceSub, Nat.reduceBEq, Nat.reduceMul, Nat.reduceLT, Nat.reduceLeDiff, reduceCtorEq, Nat.reduceEqDiff, Int.reduceBEq, Int.reduceBNe, Int.reduceLT, Int.reduceLE, Int.reduceNeg, List.set_cons_zero, List.set_cons_succ, bytesOf, natsOf, E_s_IsGraph, E_s_l2Edge, E_s_EdgesOf, hg] at hfV
    simp -implicitDefEqProofs (maxSteps := 600000) only [go_sem, List.reduceReplicate, Nat.reduceAdd, Nat.reduceSub, Nat.reduceBEq, Nat.reduceMul, Nat.reduceLT, Nat.reduceLeDiff, reduceCtorEq, Nat.reduceEqDiff, Int.reduceBEq, Int.reduceBNe, Int.reduceLT, Int.reduceLE, Int.reduceNeg, List.set_cons_zero, List.set_cons_succ, bytesOf, natsOf, E_s_IsGraph, E_s_l2Edge, E_s_EdgesOf, hg, hfV] at hsV
    have key : ∀ k v : Nat, ∀ x : List (List Int), v + k = rows.length → x.length ≤ 7 * v → V ((v : Int), x.length, x) = rLL (x ++ edgesK rows rows.length v k) 1 := by
      intro k
      induction k with
      | zero =>
        intro v x hv hx
        rw [hsV]
        simp -implicitDefEqProofs (maxSteps := 600000) (disch := omega) only [roomy, List.take_length, neq_t, impB_true, impB_false, impB_self, ge_iff_le, gt_iff_lt, lt_t, lt_f, le_t, le_f, eq_t, eq_f, ne_t, ne_f, nlt_t, nlt_f, nle_t, nle_f, neq_t, neq_f, wrap_id, succ_cast, Int.toNat_natCast, ifB_true, ifB_false, Bool.and_true, Bool.true_and, Bool.and_false, Bool.false_and, Bool.or_true, Bool.true_or, Bool.or_false, Bool.false_or, Bool.not_true, Bool.not_false, bnd_some, bnd_none]
        simp only [edgesK, List.append_nil]
        rfl
      | succ k ih =>
        intro v x hv hx
        rw [hsV]
        simp -implicitDefEqProofs (maxSteps := 600000) (disch := omega) only [roomy, List.take_length, neq_t, impB_true, impB_false, impB_self, ge_iff_le, gt_iff_lt, lt_t, lt_f, le_t, le_f, eq_t, eq_f, ne_t, ne_f, nlt_t, nlt_f, nle_t, nle_f, neq_t, neq_f, wrap_id, succ_cast, Int.toNat_natCast, ifB_true, ifB_false, Bool.and_true, Bool.true_and, Bool.and_false, Bool.false_and, Bool.or_true, Bool.true_or, Bool.or_false, Bool.false_or, Bool.not_true, Bool.not_false, bnd_some, bnd_none]
        refine loop_use (σ := Int × Nat × List (List Int)) (fun s => [(5, oi s.1), (3, .one (.hdr LI 3000 0 s.2.1))]) (fun s => [(3000, ⟨LI, s.2.2⟩)]) (fun _ => []) (((v + 1 : Nat) : Int), x.length, x) rfl ?_
        intro W hfW hsW
        replace hfW := fun (x1 : Int) (x2 : Nat) (x3 : List (List Int)) => hfW (x1, x2, x3)
        replace hsW := fun (x1 : Int) (x2 : Nat) (x3 : List (List Int)) => hsW (x1, x2, x3)
        simp -implicitDefEqProofs only [go_sem, List.reduceReplicate, Nat.reduceAdd, Nat.reduceSub, Nat.reduceBEq, Nat.reduceMul, Nat.reduceLT, Nat.reduceLeDiff, reduceCtorEq, Nat.reduceEqDiff, Int.reduceBEq, Int.reduceBNe, Int.reduceLT, Int.reduceLE, Int.reduceNeg, List.set_cons_zero, List.set_cons_succ, bytesOf, natsOf, E_s_IsGraph, E_s_l2Edge, E_s_EdgesOf, hfV] at hfW
        simp -implicitDefEqProofs (maxSteps := 600000) only [go_sem, List.reduceReplicate, Nat.reduceAdd, Nat.reduceSub, Nat.reduceBEq, Nat.reduceMul, Nat.reduceLT, Nat.reduceLeDiff, reduceCtorEq, Nat.reduceEqDiff, Int.reduceBEq, Int.reduceBNe, Int.reduceLT, Int.reduceLE, Int.reduceNeg, List.set_cons_zero, List.set_cons_succ, bytesOf, natsOf, E_s_IsGraph, E_s_l2Edge, E_s_EdgesOf, hfV, hfW] at hsW
        clear hfW hfV hsV
        have key2 : ∀ k' w : Nat, ∀ x : List (List Int), w + k' = rows.length → x.length ≤ 7 * v + w → W ((w : Int), x.length, x) = rLL (x ++ rowEdges rows v w k' ++ edgesK rows rows.length (v + 1) k) 1 := by
          intro k'
          induction k' with
          | zero =>
            intro w x hw hx
            rw [hsW]
            simp -implicitDefEqProofs (maxSteps := 600000) (disch := omega) only [roomy, List.take_length, neq_t, impB_true, impB_false, impB_self, ge_iff_le, gt_iff_lt, lt_t, lt_f, le_t, le_f, eq_t, eq_f, ne_t, ne_f, nlt_t, nlt_f, nle_t, nle_f, neq_t, neq_f, wrap_id, succ_cast, Int.toNat_natCast, ifB_true, ifB_false, Bool.and_true, Bool.true_and, Bool.and_false, Bool.false_and, Bool.or_true, Bool.true_or, Bool.or_false, Bool.false_or, Bool.not_true, Bool.not_false, bnd_some, bnd_none]
            simp only [rowEdges, List.append_nil]
            exact ih (v + 1) x (by omega) (by omega)
          | succ k' ih' =>
            intro w x hw hx
            rw [hsW]
            simp only [rowEdges]
            have e1 := ih' (w + 1) x (by omega) (by omega)
            have e2 := ih' (w + 1) (x ++ [[(v : Int), (w : Int)]]) (by omega) (by simp; omega)
            rw [List.length_append, List.length_singleton, List.append_assoc, List.append_assoc] at e2
            simp -implicitDefEqProofs (maxSteps := 600000) (disch := omega) only [roomy, List.take_length, neq_t, impB_true, impB_false, impB_self, ge_iff_le, gt_iff_lt, lt_t, lt_f, le_t, le_f, eq_t, eq_f, ne_t, ne_f, nlt_t, nlt_f, nle_t, nle_f, neq_t, neq_f, wrap_id, succ_cast, Int.toNat_natCast, ifB_true, ifB_false, Bool.and_true, Bool.true_and, Bool.and_false, Bool.false_and, Bool.or_true, Bool.true_or, Bool.or_false, Bool.false_or, Bool.not_true, Bool.not_false, bnd_some, bnd_none]
            cases has rows[v]! w
            · simp only [impB_true, impB_false, impB_self, Bool.not_true, Bool.not_false, Bool.and_true, Bool.true_and, Bool.and_false, Bool.false_and, Bool.or_true, Bool.true_or, Bool.or_false, Bool.false_or, ifB_true, ifB_false, bnd_some, bnd_none]
              rw [List.nil_append]
              exact e1
            · simp only [impB_true, impB_false, impB_self, Bool.not_true, Bool.not_false, Bool.and_true, Bool.true_and, Bool.and_false, Bool.false_and, Bool.or_true, Bool.true_or, Bool.or_false, Bool.false_or, ifB_true, ifB_false, bnd_some, bnd_none]
              rw [List.append_assoc, List.append_assoc]
              exact e2
        simp only [edgesK]
        rw [← List.append_assoc, show rows.length - (v + 1) = k by omega]
        exact key2 k (v + 1) x (by omega) (by omega)
    rw [edgesOf, hg, ifB_true]
    simpa [rLL] using key rows.length 0 [] (by omega) (by simp)
end Go.Ev
