/- A part of the proof: unit EdgesT. -/
import Derived.Test.YtgjinkacngkgdaaDoorUEdges
namespace Go.Ev
open Go.Proofs
set_option linter.unusedSimpArgs false
set_option linter.unusedVariables false
set_option maxRecDepth 20000
set_option maxHeartbeats 4000000
variable {G : World → Prop}
def E_i_FormatGraph : Ent := ⟨28, [kG], fun t => rS (graphText t.1.1 t.1.2.1) 1⟩
theorem ok_i_FormatGraph (hG : GOk G) : EntOk Tryd.prog G E_i_FormatGraph := by
  refine ent hG (fn := Tryd.f28) (l := [E_i_IsGraph, E_i_FormatInt, E_i_EdgesOf]) (by kernel_rfl) (by kernel_rfl) ⟨ok_i_IsGraph hG, ⟨ok_i_FormatInt hG, ⟨ok_i_EdgesOf hG, trivial⟩⟩⟩ ?_
  rintro ⟨⟨(n : Int), (rows : List Int), _⟩, _⟩ r hr
  show evFn env _ 28 Tryd.f28 _ = _
  rw [evFn_run fa28 rfl]
  rw [← hr]
  clear hr
  simp -implicitDefEqProofs (maxSteps := 600000) only [go_sem, List.reduceReplicate, Nat.reduceAdd, Nat.reduceSub, Nat.reduceBEq, Nat.reduceMul, Nat.reduceLT, Nat.reduceLeDiff, reduceCtorEq, Nat.reduceEqDiff, Int.reduceBEq, Int.reduceBNe, Int.reduceLT, Int.reduceLE, Int.reduceNeg, List.set_cons_zero, List.set_cons_succ, bytesOf, natsOf, E_i_IsGraph, E_i_FormatInt, E_i_EdgesOf, E_i_FormatGraph]
  refine part' (fun h1 => ?_) (fun h1 => ?_)
  · have : isG n rows = false := by simpa using h1
    rw [graphText, this]; rfl
  have hg : isG n rows = true := by simpa using h1
  obtain ⟨hw, hl, h7, h8⟩ := isG_spec hg
  have hs7 := size7 hw
  have hI : isI n = true := by simp only [isI, Bool.and_eq_true, decide_eq_true_eq]; omega
  have hL := itoa_len hI
  have hE := edgesOf_len n rows
  have hM : ∀ e ∈ edgesOf n rows, ∃ a b : Nat, a < b ∧ b < 7 ∧ e = [(a : Int), (b : Int)] := fun e he => edgesOf_mem he
  rw [graphText, hg, ifB_true]
  generalize edgesOf n rows = es at hE hM ⊢
  simp -implicitDefEqProofs (maxSteps := 600000) (disch := omega) only [roomy, List.take_length, neq_t, impB_true, impB_false, impB_self, ge_iff_le, gt_iff_lt, lt_t, lt_f, le_t, le_f, eq_t, eq_f, ne_t, ne_f, nlt_t, nlt_f, nle_t, nle_f, neq_t, neq_f, wrap_id, succ_cast, Int.toNat_natCast, ifB_true, ifB_false, Bool.and_true, Bool.true_and, Bool.and_false, Bool.false_and, Bool.or_true, Bool.true_or, Bool.or_false, Bool.false_or, Bool.not_true, Bool.not_false, bnd_some, bnd_none, hI]
  refine loop_use (σ := Int × Bytes) (fun s => [(16, oi s.1), (3, os s.2)]) (fun _ => []) (fun _ => []) (0, Lib.itoa n ++ ([58] : Bytes)) rfl ?_
  intro V hfV hsV
  replace hfV := fun (x1 : Int) (x2 : Bytes) => hfV (x1, x2)
  replace hsV := fun (x1 : Int) (x2 : Bytes) => hsV (x1, x2)
  simp -implicitDefEqProofs only [go_sem, List.reduceReplicate, Nat.reduceAdd, Nat.reduceSub, Nat.reduceBEq, Nat.reduceMul, Nat.reduceLT, Nat.reduceLeDiff, reduceCtorEq, Nat.reduceEqDiff, Int.reduceBEq, Int.reduceBNe, Int.reduceLT, Int.reduceLE, Int.reduceNeg, List.set_cons_zero, List.set_cons_succ, bytesOf, natsOf, E_i_IsGraph, E_i_FormatInt, E_i_EdgesOf, E_i_FormatGraph] at hfV
  simp -implicitDefEqProofs (maxSteps := 600000) only [go_sem, List.reduceReplicate, Nat.reduceAdd, Nat.reduceSub, Nat.reduceBEq, Nat.reduceMul, Nat.reduceLT, Nat.reduceLeDiff, reduceCtorEq, Nat.reduceEqDiff, Int.reduceBEq, Int.reduceBNe, Int.reduceLT, Int.reduceLE, Int.reduceNeg, List.set_cons_zero, List.set_cons_succ, bytesOf, natsOf, E_i_IsGraph, E_i_FormatInt, E_i_EdgesOf, E_i_FormatGraph, hfV] at hsV
  clear hfV
  have key : ∀ k i : Nat, ∀ x : Bytes, i + k = es.length → x.length + 41 * k ≤ 4000 → V ((i : Int), x) = rS (x ++ edgesText (es.drop i)) 1 := by
    intro k
    induction k with
    | zero =>
      intro i x hi hx
      rw [hsV, List.drop_eq_nil_of_le (by omega)]
      simp -implicitDefEqProofs (maxSteps := 600000) (disch := omega) only [roomy, List.take_length, neq_t, impB_true, impB_false, impB_self, ge_iff_le, gt_iff_lt, lt_t, lt_f, le_t, le_f, eq_t, eq_f, ne_t, ne_f, nlt_t, nlt_f, nle_t, nle_f, neq_t, neq_f, wrap_id, succ_cast, Int.toNat_natCast, ifB_true, ifB_false, Bool.and_true, Bool.true_and, Bool.and_false, Bool.false_and, Bool.or_true, Bool.true_or, Bool.or_false, Bool.false_or, Bool.not_true, Bool.not_false, bnd_some, bnd_none]
      simp [edgesText, rS]
    | succ k ih =>
      intro i x hi hx
      obtain ⟨a, b, h3, h4, h5⟩ := hM es[i]! (by rw [getElem!_pos es i (by omega)]; exact List.getElem_mem _)
      have ha : isI (a : Int) = true := by simp only [isI, Bool.and_eq_true, decide_eq_true_eq]; omega
      have hb : isI (b : Int) = true := by simp only [isI, Bool.and_eq_true, decide_eq_true_eq]; omega
      have la := itoa_len ha
      have lb := itoa_len hb
      have e1 : edgesText (es.drop i) = ([32] : Bytes) ++ Lib.itoa a ++ Lib.itoa b ++ edgesText (es.drop (i + 1)) := by
        rw [drop_bang (by omega)]
        simp only [edgesText, List.map_cons, List.flatten_cons, edgeText, h5]
        rfl
      have e := ih (i + 1) (x ++ (([32] : Bytes) ++ Lib.itoa a ++ Lib.itoa b)) (by omega) (by simp only [List.length_append, List.length_singleton]; omega)
      rw [hsV, e1]
      have g0 : es[i]![0]! = (a : Int) := by rw [h5]; rfl
      have g1 : es[i]![1]! = (b : Int) := by rw [h5]; rfl
      have gl : es[i]!.length = 2 := by rw [h5]; rfl
      clear h5
      simp -implicitDefEqProofs (maxSteps := 600000) (disch := omega) only [roomy, List.take_length, neq_t, impB_true, impB_false, impB_self, ge_iff_le, gt_iff_lt, lt_t, lt_f, le_t, le_f, eq_t, eq_f, ne_t, ne_f, nlt_t, nlt_f, nle_t, nle_f, neq_t, neq_f, wrap_id, succ_cast, Int.toNat_natCast, ifB_true, ifB_false, Bool.and_true, Bool.true_and, Bool.and_false, Bool.false_and, Bool.or_true, Bool.true_or, Bool.or_false, Bool.false_or, Bool.not_true, Bool.not_false, bnd_some, bnd_none, Int.toNat_zero, Int.toNat_one, g0, g1, gl, ha, hb, List.length_append, List.length_singleton]
      simpa using e
  have e := key es.length 0 (Lib.itoa n ++ ([58] : Bytes)) (by omega) (by simp only [List.length_append, List.length_singleton]; omega)
  simpa [rS] using e
def E_s_FormatGraph : Ent := ⟨18, [kG], fun t => rS (graphText t.1.1 t.1.2.1) 1⟩
theorem ok_s_FormatGraph (hG : GOk G) : EntOk Tryd.prog G E_s_FormatGraph := by
  refine ent hG (fn := Tryd.f18) (l := [E_s_IsGraph, E_s_FormatInt, E_s_EdgesOf]) (by kernel_rfl) (by kernel_rfl) ⟨ok_s_IsGraph hG, ⟨ok_s_FormatInt hG, ⟨ok_s_EdgesOf hG, trivial⟩⟩⟩ ?_
  rintro ⟨⟨(n : Int), (rows : List Int), _⟩, _⟩ r hr
  show evFn env _ 18 Tryd.f18 _ = _
  rw [evFn_run fa18 rfl]
  rw [← hr]
  clear hr
  simp -implicitDefEqProofs (maxSteps := 600000) only [go_sem, List.reduceReplicate, Nat.reduceAdd, Nat.reduceSub, Nat.reduceBEq, Nat.reduceMul, Nat.reduceLT, Nat.reduceLeDiff, reduceCtorEq, Nat.reduceEqDiff, Int.reduceBEq, Int.reduceBNe, Int.reduceLT, Int.reduceLE, Int.reduceNeg, List.set_cons_zero, List.set_cons_succ, bytesOf, natsOf, E_s_IsGraph, E_s_FormatInt, E_s_EdgesOf, E_s_FormatGraph]
  refine part' (fun h1 => ?_) (fun h1 => ?_)
  · have : isG n rows = false := by simpa using h1
    rw [graphText, this]; rfl
  have hg : isG n rows = true := by simpa using h1
  obtain ⟨hw, hl, h7, h8⟩ := isG_spec hg
  have hs7 := size7 hw
  have hI : isI n = true := by simp only [isI, Bool.and_eq_true, decide_eq_true_eq]; omega
  have hL := itoa_len hI
  have hE := edgesOf_len n rows
  have hM : ∀ e ∈ edgesOf n rows, ∃ a b : Nat, a < b ∧ b < 7 ∧ e = [(a : Int), (b : Int)] := fun e he => edgesOf_mem he
  rw [graphText, hg, ifB_true]
  generalize edgesOf n rows = es at hE hM ⊢
  simp -implicitDefEqProofs (maxSteps := 600000) (disch := omega) only [roomy, List.take_length, neq_t, impB_true, impB_false, impB_self, ge_iff_le, gt_iff_lt, lt_t, lt_f, le_t, le_f, eq_t, eq_f, ne_t, ne_f, nlt_t, nlt_f, nle_t, nle_f, neq_t, neq_f, wrap_id, succ_cast, Int.toNat_natCast, ifB_true, ifB_false, Bool.and_true, Bool.true_and, Bool.and_false, Bool.false_and, Bool.or_true, Bool.true_or, Bool.or_false, Bool.false_or, Bool.not_true, Bool.not_false, bnd_some, bnd_none, hI]
  refine loop_use (σ := Int × Bytes) (fun s => [(5, oi s.1), (3, os s.2)]) (fun _ => []) (fun _ => []) (0, Lib.itoa n ++ ([58] : Bytes)) rfl ?_
  intro V hfV hsV
  replace hfV := fun (x1 : Int) (x2 : Bytes) => hfV (x1, x2)
  replace hsV := fun (x1 : Int) (x2 : Bytes) => hsV (x1, x2)
  simp -implicitDefEqProofs only [go_sem, List.reduceReplicate, Nat.reduceAdd, Nat.reduceSub, Nat.reduceBEq, Nat.reduceMul, Nat.reduceLT, Nat.reduceLeDiff, reduceCtorEq, Nat.reduceEqDiff, Int.reduceBEq, Int.reduceBNe, Int.reduceLT, Int.reduceLE, Int.reduceNeg, List.set_cons_zero, List.set_cons_succ, bytesOf, natsOf, E_s_IsGraph, E_s_FormatInt, E_s_EdgesOf, E_s_FormatGraph] at hfV
  simp -implicitDefEqProofs (maxSteps := 600000) only [go_sem, List.reduceReplicate, Nat.reduceAdd, Nat.reduceSub, Nat.reduceBEq, Nat.reduceMul, Nat.reduceLT, Nat.reduceLeDiff, reduceCtorEq, Nat.reduceEqDiff, Int.reduceBEq, Int.reduceBNe, Int.reduceLT, Int.reduceLE, Int.reduceNeg, List.set_cons_zero, List.set_cons_succ, bytesOf, natsOf, E_s_IsGraph, E_s_FormatInt, E_s_EdgesOf, E_s_FormatGraph, hfV] at hsV
  clear hfV
  have key : ∀ k i : Nat, ∀ x : Bytes, i + k = es.length → x.length + 41 * k ≤ 4000 → V ((i : Int), x) = rS (x ++ edgesText (es.drop i)) 1 := by
    intro k
    induction k with
    | zero =>
      intro i x hi hx
      rw [hsV, List.drop_eq_nil_of_le (by omega)]
      simp -implicitDefEqProofs (maxSteps := 600000) (disch := omega) only [roomy, List.take_length, neq_t, impB_true, impB_false, impB_self, ge_iff_le, gt_iff_lt, lt_t, lt_f, le_t, le_f, eq_t, eq_f, ne_t, ne_f, nlt_t, nlt_f, nle_t, nle_f, neq_t, neq_f, wrap_id, succ_cast, Int.toNat_natCast, ifB_true, ifB_false, Bool.and_true, Bool.true_and, Bool.and_false, Bool.false_and, Bool.or_true, Bool.true_or, Bool.or_false, Bool.false_or, Bool.not_true, Bool.not_false, bnd_some, bnd_none]
      simp [edgesText, rS]
    | succ k ih =>
      intro i x hi hx
      obtain ⟨a, b, h3, h4, h5⟩ := hM es[i]! (by rw [getElem!_pos es i (by omega)]; exact List.getElem_mem _)
      have ha : isI (a : Int) = true := by simp only [isI, Bool.and_eq_true, decide_eq_true_eq]; omega
      have hb : isI (b : Int) = true := by simp only [isI, Bool.and_eq_true, decide_eq_true_eq]; omega
      have la := itoa_len ha
      have lb := itoa_len hb
      have e1 : edgesText (es.drop i) = ([32] : Bytes) ++ Lib.itoa a ++ Lib.itoa b ++ edgesText (es.drop (i + 1)) := by
        rw [drop_bang (by omega)]
        simp only [edgesText, List.map_cons, List.flatten_cons, edgeText, h5]
        rfl
      have e := ih (i + 1) (x ++ (([32] : Bytes) ++ Lib.itoa a ++ Lib.itoa b)) (by omega) (by simp only [List.length_append, List.length_singleton]; omega)
      rw [hsV, e1]
      have g0 : es[i]![0]! = (a : Int) := by rw [h5]; rfl
      have g1 : es[i]![1]! = (b : Int) := by rw [h5]; rfl
      have gl : es[i]!.length = 2 := by rw [h5]; rfl
      clear h5
      simp -implicitDefEqProofs (maxSteps := 600000) (disch := omega) only [roomy, List.take_length, neq_t, impB_true, impB_false, impB_self, ge_iff_le, gt_iff_lt, lt_t, lt_f, le_t, le_f, eq_t, eq_f, ne_t, ne_f, nlt_t, nlt_f, nle_t, nle_f, neq_t, neq_f, wrap_id, succ_cast, Int.toNat_natCast, ifB_true, ifB_false, Bool.and_true, Bool.true_and, Bool.and_false, Bool.false_and, Bool.or_true, Bool.true_or, Bool.or_false, Bool.false_or, Bool.not_true, Bool.not_false, bnd_some, bnd_none, Int.toNat_zero, Int.toNat_one, g0, g1, gl, ha, hb, List.length_append, List.length_singleton]
      simpa using e
  have e := key es.length 0 (Lib.itoa n ++ ([58] : Bytes)) (by omega) (by simp only [List.length_append, List.length_singleton]; omega)
  simpa [rS] using e
end Go.Ev
