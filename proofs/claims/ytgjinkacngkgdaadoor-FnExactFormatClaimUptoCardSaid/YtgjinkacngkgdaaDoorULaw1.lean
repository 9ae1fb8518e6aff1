/- A part of the proof: unit Law1. -/
import Derived.Test.YtgjinkacngkgdaaDoorUClaim
import Derived.Test.YtgjinkacngkgdaaDoorULaw1M
namespace Go.Ev
open Go.Proofs
set_option linter.unusedSimpArgs false
set_option linter.unusedVariables false
set_option maxRecDepth 20000
set_option maxHeartbeats 4000000
variable {G : World → Prop}
def shortC (rows nums oths : List Int) (edgs : List (List Int)) : Bool := decide (rows.length ≤ 2097152) && (decide (nums.length ≤ 2097152) && (decide (oths.length ≤ 2097152) && (decide (edgs.length ≤ 2097152) && allShort edgs)))
def claimSh (t : kC.T) : Bool := shortC t.2.2.1 t.2.2.2.2.1 t.2.2.2.2.2.1 t.2.2.2.2.2.2.1
def E_l_szIntS : Ent := ⟨16, [LI, I64], fun t => ifB (okN t.2.1 && decide (t.1.length ≤ 2097152)) (rI (szI t.1.length t.2.1) 2) none⟩
theorem ok_l_szIntS (hG : GOk G) : EntOk Tryd.prog G E_l_szIntS := by
  refine ent hG (fn := Tryd.f16) (l := []) (by kernel_rfl) (by kernel_rfl) trivial ?_
  rintro ⟨(l : List Int), (n : Int), _⟩ r hr
  show evFn env _ 16 Tryd.f16 _ = _
  rw [evFn_run fa16 rfl]
  obtain ⟨h1, hr⟩ := ifB_some hr
  have h1' : okN n = true ∧ l.length ≤ 2097152 := by simpa using h1
  rw [← hr]
  clear hr h1
  have h2 := okN_spec h1'.1
  simp -implicitDefEqProofs (maxSteps := 600000) only [go_sem, List.reduceReplicate, Nat.reduceAdd, Nat.reduceSub, Nat.reduceBEq, Nat.reduceMul, Nat.reduceLT, Nat.reduceLeDiff, reduceCtorEq, Nat.reduceEqDiff, Int.reduceBEq, Int.reduceBNe, Int.reduceLT, Int.reduceLE, Int.reduceNeg, List.set_cons_zero, List.set_cons_succ, bytesOf, natsOf, E_l_szIntS, szI]
  simp -implicitDefEqProofs (maxSteps := 600000) (disch := omega) only [roomy, List.take_length, neq_t, impB_true, impB_false, impB_self, ge_iff_le, gt_iff_lt, lt_t, lt_f, le_t, le_f, eq_t, eq_f, ne_t, ne_f, nlt_t, nlt_f, nle_t, nle_f, neq_t, neq_f, wrap_id, succ_cast, Int.toNat_natCast, ifB_true, ifB_false, Bool.and_true, Bool.true_and, Bool.and_false, Bool.false_and, Bool.or_true, Bool.true_or, Bool.or_false, Bool.false_or, Bool.not_true, Bool.not_false, bnd_some, bnd_none]
  cases decide (n - (l.length : Int) < 0) <;> rfl
def E_l_szIntSS : Ent := ⟨17, [LLI, I64], fun t => ifB (okN t.2.1 && (decide (t.1.length ≤ 2097152) && allShort t.1)) (rI (ifB (decide (szI t.1.length t.2.1 < 0)) (-1) (szLL t.1 (szI t.1.length t.2.1))) 2) none⟩
theorem ok_l_szIntSS (hG : GOk G) : EntOk Tryd.prog G E_l_szIntSS := by
  refine ent hG (fn := Tryd.f17) (l := [E_l_szIntS]) (by kernel_rfl) (by kernel_rfl) ⟨ok_l_szIntS hG, trivial⟩ ?_
  rintro ⟨(l : List (List Int)), (n : Int), _⟩ r hr
  show evFn env _ 17 Tryd.f17 _ = _
  rw [evFn_run fa17 rfl]
  obtain ⟨h1, hr⟩ := ifB_some hr
  have h1' : okN n = true ∧ l.length ≤ 2097152 ∧ allShort l = true := by simpa using h1
  rw [← hr]
  clear hr h1
  have h2 := okN_spec h1'.1
  have hw : IntKind.i64.wrap (n - (l.length : Int)) = n - l.length := wrap_id (by omega) (by omega)
  simp -implicitDefEqProofs (maxSteps := 600000) only [go_sem, List.reduceReplicate, Nat.reduceAdd, Nat.reduceSub, Nat.reduceBEq, Nat.reduceMul, Nat.reduceLT, Nat.reduceLeDiff, reduceCtorEq, Nat.reduceEqDiff, Int.reduceBEq, Int.reduceBNe, Int.reduceLT, Int.reduceLE, Int.reduceNeg, List.set_cons_zero, List.set_cons_succ, bytesOf, natsOf, E_l_szIntS, E_l_szIntSS, hw]
  refine part' (fun h3 => ?_) (fun h3 => ?_)
  · have : szI l.length n = -1 := by unfold szI; rw [h3]; rfl
    rw [this]
    rfl
  have h4 : szI l.length n = n - l.length := by unfold szI; rw [h3]; rfl
  rw [h4, h3, ifB_false]
  have h5 : okN (n - l.length) = true := by rw [← h4]; exact okN_szI h1'.1
  refine loop_use (σ := Int × Int) (fun s => [(5, oi s.1), (1, oi s.2)]) (fun _ => []) (fun _ => []) (0, n - (l.length : Int)) rfl ?_
  intro V hfV hsV
  replace hfV := fun (x1 : Int) (x2 : Int) => hfV (x1, x2)
  replace hsV := fun (x1 : Int) (x2 : Int) => hsV (x1, x2)
  simp -implicitDefEqProofs only [go_sem, List.reduceReplicate, Nat.reduceAdd, Nat.reduceSub, Nat.reduceBEq, Nat.reduceMul, Nat.reduceLT, Nat.reduceLeDiff, reduceCtorEq, Nat.reduceEqDiff, Int.reduceBEq, Int.reduceBNe, Int.reduceLT, Int.reduceLE, Int.reduceNeg, List.set_cons_zero, List.set_cons_succ, bytesOf, natsOf, E_l_szIntS, E_l_szIntSS] at hfV
  simp -implicitDefEqProofs (maxSteps := 600000) only [go_sem, List.reduceReplicate, Nat.reduceAdd, Nat.reduceSub, Nat.reduceBEq, Nat.reduceMul, Nat.reduceLT, Nat.reduceLeDiff, reduceCtorEq, Nat.reduceEqDiff, Int.reduceBEq, Int.reduceBNe, Int.reduceLT, Int.reduceLE, Int.reduceNeg, List.set_cons_zero, List.set_cons_succ, bytesOf, natsOf, E_l_szIntS, E_l_szIntSS, hfV] at hsV
  clear hfV
  have key : ∀ k i : Nat, ∀ m : Int, i + k = l.length → okN m = true → V ((i : Int), m) = rI (szLL (l.drop i) m) 2 := by
    intro k
    induction k with
    | zero =>
      intro i m hi hm
      rw [hsV, List.drop_eq_nil_of_le (by omega)]
      simp -implicitDefEqProofs (maxSteps := 600000) (disch := omega) only [roomy, List.take_length, neq_t, impB_true, impB_false, impB_self, ge_iff_le, gt_iff_lt, lt_t, lt_f, le_t, le_f, eq_t, eq_f, ne_t, ne_f, nlt_t, nlt_f, nle_t, nle_f, neq_t, neq_f, wrap_id, succ_cast, Int.toNat_natCast, ifB_true, ifB_false, Bool.and_true, Bool.true_and, Bool.and_false, Bool.false_and, Bool.or_true, Bool.true_or, Bool.or_false, Bool.false_or, Bool.not_true, Bool.not_false, bnd_some, bnd_none]
      rfl
    | succ k ih =>
      intro i m hi hm
      have h6 := allShort_bang h1'.2.2 (show i < l.length by omega)
      have e := ih (i + 1) (szI l[i]!.length m) (by omega) (okN_szI hm)
      rw [hsV, drop_bang (by omega)]
      simp only [szLL]
      simp -implicitDefEqProofs (maxSteps := 600000) (disch := omega) only [roomy, List.take_length, neq_t, impB_true, impB_false, impB_self, ge_iff_le, gt_iff_lt, lt_t, lt_f, le_t, le_f, eq_t, eq_f, ne_t, ne_f, nlt_t, nlt_f, nle_t, nle_f, neq_t, neq_f, wrap_id, succ_cast, Int.toNat_natCast, ifB_true, ifB_false, Bool.and_true, Bool.true_and, Bool.and_false, Bool.false_and, Bool.or_true, Bool.true_or, Bool.or_false, Bool.false_or, Bool.not_true, Bool.not_false, bnd_some, bnd_none, hm]
      rw [e]
      cases decide (szI l[i]!.length m < 0) <;> rfl
  exact key l.length 0 _ (by omega) h5
def E_l_szGraph : Ent := ⟨15, [kG, I64], fun t => ifB (okN t.2.1 && decide (t.1.2.1.length ≤ 2097152)) (rI (szI t.1.2.1.length t.2.1) 2) none⟩
theorem ok_l_szGraph (hG : GOk G) : EntOk Tryd.prog G E_l_szGraph := by
  refine ent hG (fn := Tryd.f15) (l := [E_l_szIntS]) (by kernel_rfl) (by kernel_rfl) ⟨ok_l_szIntS hG, trivial⟩ ?_
  rintro ⟨⟨(s : Int), (rows : List Int), _⟩, (n : Int), _⟩ r hr
  show evFn env _ 15 Tryd.f15 _ = _
  rw [evFn_run fa15 rfl]
  obtain ⟨h1, hr⟩ := ifB_some hr
  have h1' : (okN n && decide (rows.length ≤ 2097152)) = true := h1
  rw [← hr]
  clear hr h1
  simp -implicitDefEqProofs (maxSteps := 600000) only [go_sem, List.reduceReplicate, Nat.reduceAdd, Nat.reduceSub, Nat.reduceBEq, Nat.reduceMul, Nat.reduceLT, Nat.reduceLeDiff, reduceCtorEq, Nat.reduceEqDiff, Int.reduceBEq, Int.reduceBNe, Int.reduceLT, Int.reduceLE, Int.reduceNeg, List.set_cons_zero, List.set_cons_succ, bytesOf, natsOf, E_l_szIntS, E_l_szGraph, h1']
  refine part' (fun h3 => ?_) (fun h3 => ?_)
  · have : szI rows.length n = -1 := by
      have h3 : szI rows.length n < 0 := by simpa using h3
      have := szI_bd (k := rows.length) (n := n) (by
        have := okN_spec (Bool.and_eq_true _ _ ▸ h1' : okN n = true ∧ _).1
        exact this.2)
      omega
    rw [this]
  · rfl
def E_l_toIntS : Ent := ⟨23, [LI], fun t => ifB (decide (t.1.length ≤ 2097152)) (rL t.1 1) none⟩
theorem ok_l_toIntS (hG : GOk G) : EntOk Tryd.prog G E_l_toIntS := by
  refine ent hG (fn := Tryd.f23) (l := []) (by kernel_rfl) (by kernel_rfl) trivial ?_
  rintro ⟨(l : List Int), _⟩ r hr
  show evFn env _ 23 Tryd.f23 _ = _
  rw [evFn_run fa23 rfl]
  obtain ⟨h1, hr⟩ := ifB_some hr
  have h1' : l.length ≤ 2097152 := by simpa using h1
  rw [← hr]
  clear hr h1
  simp -implicitDefEqProofs (maxSteps := 600000) only [go_sem, List.reduceReplicate, Nat.reduceAdd, Nat.reduceSub, Nat.reduceBEq, Nat.reduceMul, Nat.reduceLT, Nat.reduceLeDiff, reduceCtorEq, Nat.reduceEqDiff, Int.reduceBEq, Int.reduceBNe, Int.reduceLT, Int.reduceLE, Int.reduceNeg, List.set_cons_zero, List.set_cons_succ, bytesOf, natsOf, E_l_toIntS]
  simp -implicitDefEqProofs (maxSteps := 600000) (disch := omega) only [roomy, List.take_length, neq_t, impB_true, impB_false, impB_self, ge_iff_le, gt_iff_lt, lt_t, lt_f, le_t, le_f, eq_t, eq_f, ne_t, ne_f, nlt_t, nlt_f, nle_t, nle_f, neq_t, neq_f, wrap_id, succ_cast, Int.toNat_natCast, ifB_true, ifB_false, Bool.and_true, Bool.true_and, Bool.and_false, Bool.false_and, Bool.or_true, Bool.true_or, Bool.or_false, Bool.false_or, Bool.not_true, Bool.not_false, bnd_some, bnd_none]
  refine loop_use (σ := Int × List Int) (fun s => [(4, oi s.1)]) (fun s => [(3000, ⟨I64, s.2⟩)]) (fun _ => []) (0, List.replicate l.length 0) rfl ?_
  intro V hfV hsV
  replace hfV := fun (x1 : Int) (x2 : List Int) => hfV (x1, x2)
  replace hsV := fun (x1 : Int) (x2 : List Int) => hsV (x1, x2)
  simp -implicitDefEqProofs only [go_sem, List.reduceReplicate, Nat.reduceAdd, Nat.reduceSub, Nat.reduceBEq, Nat.reduceMul, Nat.reduceLT, Nat.reduceLeDiff, reduceCtorEq, Nat.reduceEqDiff, Int.reduceBEq, Int.reduceBNe, Int.reduceLT, Int.reduceLE, Int.reduceNeg, List.set_cons_zero, List.set_cons_succ, bytesOf, natsOf, E_l_toIntS] at hfV
  simp -implicitDefEqProofs (maxSteps := 600000) only [go_sem, List.reduceReplicate, Nat.reduceAdd, Nat.reduceSub, Nat.reduceBEq, Nat.reduceMul, Nat.reduceLT, Nat.reduceLeDiff, reduceCtorEq, Nat.reduceEqDiff, Int.reduceBEq, Int.reduceBNe, Int.reduceLT, Int.reduceLE, Int.reduceNeg, List.set_cons_zero, List.set_cons_succ, bytesOf, natsOf, E_l_toIntS, hfV] at hsV
  clear hfV
  have key : ∀ k i : Nat, i + k = l.length → V ((i : Int), l.take i ++ List.replicate (l.length - i) 0) = rL l 1 := by
    intro k
    induction k with
    | zero =>
      intro i hi
      rw [hsV]
      have hi' : i = l.length := by omega
      subst hi'
      simp -implicitDefEqProofs (maxSteps := 600000) (disch := omega) only [roomy, List.take_length, neq_t, impB_true, impB_false, impB_self, ge_iff_le, gt_iff_lt, lt_t, lt_f, le_t, le_f, eq_t, eq_f, ne_t, ne_f, nlt_t, nlt_f, nle_t, nle_f, neq_t, neq_f, wrap_id, succ_cast, Int.toNat_natCast, ifB_true, ifB_false, Bool.and_true, Bool.true_and, Bool.and_false, Bool.false_and, Bool.or_true, Bool.true_or, Bool.or_false, Bool.false_or, Bool.not_true, Bool.not_false, bnd_some, bnd_none]
      simp [rL]
    | succ k ih =>
      intro i hi
      have hlen : (l.take i ++ List.replicate (l.length - i) (0 : Int)).length = l.length := by
        rw [List.length_append, List.length_take, List.length_replicate]; omega
      rw [hsV, hlen]
      simp -implicitDefEqProofs (maxSteps := 600000) (disch := omega) only [roomy, List.take_length, neq_t, impB_true, impB_false, impB_self, ge_iff_le, gt_iff_lt, lt_t, lt_f, le_t, le_f, eq_t, eq_f, ne_t, ne_f, nlt_t, nlt_f, nle_t, nle_f, neq_t, neq_f, wrap_id, succ_cast, Int.toNat_natCast, ifB_true, ifB_false, Bool.and_true, Bool.true_and, Bool.and_false, Bool.false_and, Bool.or_true, Bool.true_or, Bool.or_false, Bool.false_or, Bool.not_true, Bool.not_false, bnd_some, bnd_none]
      rw [take_set (by omega)]
      exact ih (i + 1) (by omega)
  simpa [rL] using key l.length 0 (by omega)
def E_l_toIntSS : Ent := ⟨24, [LLI], fun t => ifB (decide (t.1.length ≤ 2097152) && allShort t.1) (rLL t.1 1) none⟩
theorem ok_l_toIntSS (hG : GOk G) : EntOk Tryd.prog G E_l_toIntSS := by
  refine ent hG (fn := Tryd.f24) (l := [E_l_toIntS]) (by kernel_rfl) (by kernel_rfl) ⟨ok_l_toIntS hG, trivial⟩ ?_
  rintro ⟨(l : List (List Int)), _⟩ r hr
  show evFn env _ 24 Tryd.f24 _ = _
  rw [evFn_run fa24 rfl]
  obtain ⟨h1, hr⟩ := ifB_some hr
  have h1' : l.length ≤ 2097152 ∧ allShort l = true := by simpa using h1
  rw [← hr]
  clear hr h1
  simp -implicitDefEqProofs (maxSteps := 600000) only [go_sem, List.reduceReplicate, Nat.reduceAdd, Nat.reduceSub, Nat.reduceBEq, Nat.reduceMul, Nat.reduceLT, Nat.reduceLeDiff, reduceCtorEq, Nat.reduceEqDiff, Int.reduceBEq, Int.reduceBNe, Int.reduceLT, Int.reduceLE, Int.reduceNeg, List.set_cons_zero, List.set_cons_succ, bytesOf, natsOf, E_l_toIntS, E_l_toIntSS]
  simp -implicitDefEqProofs (maxSteps := 600000) (disch := omega) only [roomy, List.take_length, neq_t, impB_true, impB_false, impB_self, ge_iff_le, gt_iff_lt, lt_t, lt_f, le_t, le_f, eq_t, eq_f, ne_t, ne_f, nlt_t, nlt_f, nle_t, nle_f, neq_t, neq_f, wrap_id, succ_cast, Int.toNat_natCast, ifB_true, ifB_false, Bool.and_true, Bool.true_and, Bool.and_false, Bool.false_and, Bool.or_true, Bool.true_or, Bool.or_false, Bool.false_or, Bool.not_true, Bool.not_false, bnd_some, bnd_none]
  refine loop_use (σ := Int × List (List Int)) (fun s => [(4, oi s.1)]) (fun s => [(3000, ⟨LI, s.2⟩)]) (fun _ => []) (0, List.replicate l.length []) rfl ?_
  intro V hfV hsV
  replace hfV := fun (x1 : Int) (x2 : List (List Int)) => hfV (x1, x2)
  replace hsV := fun (x1 : Int) (x2 : List (List Int)) => hsV (x1, x2)
  simp -implicitDefEqProofs only [go_sem, List.reduceReplicate, Nat.reduceAdd, Nat.reduceSub, Nat.reduceBEq, Nat.reduceMul, Nat.reduceLT, Nat.reduceLeDiff, reduceCtorEq, Nat.reduceEqDiff, Int.reduceBEq, Int.reduceBNe, Int.reduceLT, Int.reduceLE, Int.reduceNeg, List.set_cons_zero, List.set_cons_succ, bytesOf, natsOf, E_l_toIntS, E_l_toIntSS] at hfV
  simp -implicitDefEqProofs (maxSteps := 600000) only [go_sem, List.reduceReplicate, Nat.reduceAdd, Nat.reduceSub, Nat.reduceBEq, Nat.reduceMul, Nat.reduceLT, Nat.reduceLeDiff, reduceCtorEq, Nat.reduceEqDiff, Int.reduceBEq, Int.reduceBNe, Int.reduceLT, Int.reduceLE, Int.reduceNeg, List.set_cons_zero, List.set_cons_succ, bytesOf, natsOf, E_l_toIntS, E_l_toIntSS, hfV] at hsV
  clear hfV
  have key : ∀ k i : Nat, i + k = l.length → V ((i : Int), l.take i ++ List.replicate (l.length - i) []) = rLL l 1 := by
    intro k
    induction k with
    | zero =>
      intro i hi
      rw [hsV]
      have hi' : i = l.length := by omega
      subst hi'
      simp -implicitDefEqProofs (maxSteps := 600000) (disch := omega) only [roomy, List.take_length, neq_t, impB_true, impB_false, impB_self, ge_iff_le, gt_iff_lt, lt_t, lt_f, le_t, le_f, eq_t, eq_f, ne_t, ne_f, nlt_t, nlt_f, nle_t, nle_f, neq_t, neq_f, wrap_id, succ_cast, Int.toNat_natCast, ifB_true, ifB_false, Bool.and_true, Bool.true_and, Bool.and_false, Bool.false_and, Bool.or_true, Bool.true_or, Bool.or_false, Bool.false_or, Bool.not_true, Bool.not_false, bnd_some, bnd_none]
      simp [rLL]
    | succ k ih =>
      intro i hi
      have h6 := allShort_bang h1'.2 (show i < l.length by omega)
      have hlen : (l.take i ++ List.replicate (l.length - i) ([] : List Int)).length = l.length := by
        rw [List.length_append, List.length_take, List.length_replicate]; omega
      rw [hsV, hlen]
      simp -implicitDefEqProofs (maxSteps := 600000) (disch := omega) only [roomy, List.take_length, neq_t, impB_true, impB_false, impB_self, ge_iff_le, gt_iff_lt, lt_t, lt_f, le_t, le_f, eq_t, eq_f, ne_t, ne_f, nlt_t, nlt_f, nle_t, nle_f, neq_t, neq_f, wrap_id, succ_cast, Int.toNat_natCast, ifB_true, ifB_false, Bool.and_true, Bool.true_and, Bool.and_false, Bool.false_and, Bool.or_true, Bool.true_or, Bool.or_false, Bool.false_or, Bool.not_true, Bool.not_false, bnd_some, bnd_none]
      rw [take_set (by omega)]
      exact ih (i + 1) (by omega)
  simpa [rLL] using key l.length 0 (by omega)
def E_l_toGraph : Ent := ⟨22, [kG], fun t => ifB (decide (t.1.2.1.length ≤ 2097152)) (some ⟨[(⟨kG, (t.1.1, t.1.2.1, ())⟩, .own)], [none]⟩) none⟩
theorem ok_l_toGraph (hG : GOk G) : EntOk Tryd.prog G E_l_toGraph := by
  refine ent hG (fn := Tryd.f22) (l := [E_l_toIntS]) (by kernel_rfl) (by kernel_rfl) ⟨ok_l_toIntS hG, trivial⟩ ?_
  rintro ⟨⟨(s : Int), (rows : List Int), _⟩, _⟩ r hr
  show evFn env _ 22 Tryd.f22 _ = _
  rw [evFn_run fa22 rfl]
  rw [← hr]
  clear hr
  simp -implicitDefEqProofs (maxSteps := 600000) only [go_sem, List.reduceReplicate, Nat.reduceAdd, Nat.reduceSub, Nat.reduceBEq, Nat.reduceMul, Nat.reduceLT, Nat.reduceLeDiff, reduceCtorEq, Nat.reduceEqDiff, Int.reduceBEq, Int.reduceBNe, Int.reduceLT, Int.reduceLE, Int.reduceNeg, List.set_cons_zero, List.set_cons_succ, bytesOf, natsOf, E_l_toIntS, E_l_toGraph, List.take_length]
def E_l_toClaim : Ent := ⟨7, [kC], fun t => ifB (claimSh t.1) (some ⟨[(⟨kC, t.1⟩, .own)], [none]⟩) none⟩
theorem ok_l_toClaim (hG : GOk G) : EntOk Tryd.prog G E_l_toClaim := by
  refine ent hG (fn := Tryd.f7) (l := [E_l_toGraph, E_l_toIntS, E_l_toIntSS]) (by kernel_rfl) (by kernel_rfl) ⟨ok_l_toGraph hG, ⟨ok_l_toIntS hG, ⟨ok_l_toIntSS hG, trivial⟩⟩⟩ ?_
  rintro ⟨⟨(kd : Int), (s : Int), (rows : List Int), (cls : Bytes), (nums : List Int), (oths : List Int), (edgs : List (List Int)), _⟩, _⟩ r hr
  show evFn env _ 7 Tryd.f7 _ = _
  rw [evFn_run fa7 rfl]
  rw [← hr]
  clear hr
  simp -implicitDefEqProofs (maxSteps := 600000) only [go_sem, List.reduceReplicate, Nat.reduceAdd, Nat.reduceSub, Nat.reduceBEq, Nat.reduceMul, Nat.reduceLT, Nat.reduceLeDiff, reduceCtorEq, Nat.reduceEqDiff, Int.reduceBEq, Int.reduceBNe, Int.reduceLT, Int.reduceLE, Int.reduceNeg, List.set_cons_zero, List.set_cons_succ, bytesOf, natsOf, E_l_toGraph, E_l_toIntS, E_l_toIntSS, E_l_toClaim, claimSh, shortC, List.take_length]
end Go.Ev
