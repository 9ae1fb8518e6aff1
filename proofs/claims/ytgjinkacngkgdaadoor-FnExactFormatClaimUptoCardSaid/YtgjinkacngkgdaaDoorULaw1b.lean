/- A part of the proof: unit Law1b. -/
import Derived.Test.YtgjinkacngkgdaaDoorULaw1
namespace Go.Ev
open Go.Proofs
set_option linter.unusedSimpArgs false
set_option linter.unusedVariables false
set_option maxRecDepth 20000
set_option maxHeartbeats 4000000
variable {G : World → Prop}
def szC (rows : List Int) (cls : Bytes) (nums oths : List Int) (edgs : List (List Int)) (n : Int) : Int :=
  let a := szI rows.length n
  ifB (decide (a < 0)) (-1) (let b := a - cls.length
    ifB (decide (b < 0)) (-1) (let c := szI nums.length b
      ifB (decide (c < 0)) (-1) (let d := szI oths.length c
        ifB (decide (d < 0)) (-1) (let e := szI edgs.length d
          let f := ifB (decide (e < 0)) (-1) (szLL edgs e)
          ifB (decide (f < 0)) (-1) f))))
def E_l_szClaim : Ent := ⟨5, [kC, I64], fun t => ifB (claimSh t.1 && (okN t.2.1 && decide (t.1.2.2.2.1.length ≤ 2097152))) (rI (szC t.1.2.2.1 t.1.2.2.2.1 t.1.2.2.2.2.1 t.1.2.2.2.2.2.1 t.1.2.2.2.2.2.2.1 t.2.1) 2) none⟩
theorem ok_l_szClaim (hG : GOk G) : EntOk Tryd.prog G E_l_szClaim := by
  refine ent hG (fn := Tryd.f5) (l := [E_l_szGraph, E_l_szIntS, E_l_szIntSS]) (by kernel_rfl) (by kernel_rfl) ⟨ok_l_szGraph hG, ⟨ok_l_szIntS hG, ⟨ok_l_szIntSS hG, trivial⟩⟩⟩ ?_
  rintro ⟨⟨(kd : Int), (s : Int), (rows : List Int), (cls : Bytes), (nums : List Int), (oths : List Int), (edgs : List (List Int)), _⟩, (n : Int), _⟩ r hr
  show evFn env _ 5 Tryd.f5 _ = _
  rw [evFn_run fa5 rfl]
  obtain ⟨h0, hr⟩ := ifB_some hr
  have h0' : shortC rows nums oths edgs = true ∧ okN n = true ∧ cls.length ≤ 2097152 := by
    have h0 : (shortC rows nums oths edgs && (okN n && decide (cls.length ≤ 2097152))) = true := h0
    simpa using h0
  have h1 : rows.length ≤ 2097152 ∧ nums.length ≤ 2097152 ∧ oths.length ≤ 2097152 ∧ edgs.length ≤ 2097152 ∧ allShort edgs = true := by
    have h0' := h0'.1
    simp only [shortC, Bool.and_eq_true, decide_eq_true_eq] at h0'
    exact ⟨h0'.1, h0'.2.1, h0'.2.2.1, h0'.2.2.2.1, h0'.2.2.2.2⟩
  rw [← hr]
  clear hr h0
  obtain ⟨_, h2, h3⟩ := h0'
  obtain ⟨l1, l2, l3, l4, l5⟩ := h1
  simp -implicitDefEqProofs (maxSteps := 600000) only [go_sem, List.reduceReplicate, Nat.reduceAdd, Nat.reduceSub, Nat.reduceBEq, Nat.reduceMul, Nat.reduceLT, Nat.reduceLeDiff, reduceCtorEq, Nat.reduceEqDiff, Int.reduceBEq, Int.reduceBNe, Int.reduceLT, Int.reduceLE, Int.reduceNeg, List.set_cons_zero, List.set_cons_succ, bytesOf, natsOf, E_l_szGraph, E_l_szIntS, E_l_szIntSS, E_l_szClaim]
  unfold szC
  have ha : okN (szI rows.length n) = true := okN_szI h2
  rw [h2, nle_t l1, nle_t l2, nle_t l3, nle_t l4, l5]
  simp only [Bool.true_and, Bool.and_true, ifB_true]
  generalize szI rows.length n = a at ha ⊢
  have ha' := okN_spec ha
  rw [wrap_id (n := a - (List.length cls : Int)) (by omega) (by omega)]
  refine part' (fun q => ?_) (fun q => ?_)
  · rw [q]; rfl
  rw [q, ifB_false]
  clear q
  generalize hb : a - (List.length cls : Int) = b
  have hb' : b ≤ 1048576 := by omega
  refine part' (fun q => ?_) (fun q => ?_)
  · rw [q]; rfl
  rw [q, ifB_false]
  have hbo : okN b = true := by
    have : ¬ b < 0 := by simpa using q
    simp only [okN, Bool.and_eq_true, decide_eq_true_eq]; omega
  clear q hb
  rw [hbo, ifB_true]
  have hc := okN_szI (k := nums.length) hbo
  generalize szI nums.length b = c at hc ⊢
  refine part' (fun q => ?_) (fun q => ?_)
  · rw [q]; rfl
  rw [q, ifB_false, hc, ifB_true]
  clear q
  have hd := okN_szI (k := oths.length) hc
  generalize szI oths.length c = d at hd ⊢
  refine part' (fun q => ?_) (fun q => ?_)
  · rw [q]; rfl
  rw [q, ifB_false, hd, ifB_true]
  clear q
  generalize ifB (decide (szI edgs.length d < 0)) (-1) (szLL edgs (szI edgs.length d)) = f
  refine part' (fun q => ?_) (fun q => ?_)
  · rw [q]; rfl
  rw [q, ifB_false]
def E_l_eqIntS : Ent := ⟨33, [LI, LI], fun t => ifB (decide (t.1.length ≤ 2097152)) (rB (t.1 == t.2.1) 2) none⟩
theorem ok_l_eqIntS (hG : GOk G) : EntOk Tryd.prog G E_l_eqIntS := by
  refine ent hG (fn := Tryd.f33) (l := []) (by kernel_rfl) (by kernel_rfl) trivial ?_
  rintro ⟨(a : List Int), (b : List Int), _⟩ r hr
  show evFn env _ 33 Tryd.f33 _ = _
  rw [evFn_run fa33 rfl]
  obtain ⟨h0, hr⟩ := ifB_some hr
  have h0' : a.length ≤ 2097152 := by simpa using h0
  rw [← hr]
  clear hr h0
  simp -implicitDefEqProofs (maxSteps := 600000) only [go_sem, List.reduceReplicate, Nat.reduceAdd, Nat.reduceSub, Nat.reduceBEq, Nat.reduceMul, Nat.reduceLT, Nat.reduceLeDiff, reduceCtorEq, Nat.reduceEqDiff, Int.reduceBEq, Int.reduceBNe, Int.reduceLT, Int.reduceLE, Int.reduceNeg, List.set_cons_zero, List.set_cons_succ, bytesOf, natsOf, E_l_eqIntS]
  refine part' (fun h1 => ?_) (fun h1 => ?_)
  · have : (a == b) = false := by
      have h1' : ¬ (a.length : Int) = b.length := by simpa using h1
      rw [beq_eq_false_iff_ne]
      rintro rfl
      exact h1' rfl
    rw [this]
  have hl : a.length = b.length := by
    have h1' : (a.length : Int) = b.length := by simpa using h1
    omega
  refine loop_use (σ := Int) (fun i => [(5, oi i)]) (fun _ => []) (fun _ => []) 0 rfl ?_
  intro V hfV hsV
  simp -implicitDefEqProofs only [go_sem, List.reduceReplicate, Nat.reduceAdd, Nat.reduceSub, Nat.reduceBEq, Nat.reduceMul, Nat.reduceLT, Nat.reduceLeDiff, reduceCtorEq, Nat.reduceEqDiff, Int.reduceBEq, Int.reduceBNe, Int.reduceLT, Int.reduceLE, Int.reduceNeg, List.set_cons_zero, List.set_cons_succ, bytesOf, natsOf, E_l_eqIntS] at hfV
  simp -implicitDefEqProofs (maxSteps := 600000) only [go_sem, List.reduceReplicate, Nat.reduceAdd, Nat.reduceSub, Nat.reduceBEq, Nat.reduceMul, Nat.reduceLT, Nat.reduceLeDiff, reduceCtorEq, Nat.reduceEqDiff, Int.reduceBEq, Int.reduceBNe, Int.reduceLT, Int.reduceLE, Int.reduceNeg, List.set_cons_zero, List.set_cons_succ, bytesOf, natsOf, E_l_eqIntS, hfV] at hsV
  clear hfV
  have key : ∀ k i : Nat, i + k = a.length → V (i : Int) = rB (a.drop i == b.drop i) 2 := by
    intro k
    induction k with
    | zero =>
      intro i hi
      rw [hsV, List.drop_eq_nil_of_le (by omega), List.drop_eq_nil_of_le (by omega)]
      simp -implicitDefEqProofs (maxSteps := 600000) (disch := omega) only [roomy, List.take_length, neq_t, impB_true, impB_false, impB_self, ge_iff_le, gt_iff_lt, lt_t, lt_f, le_t, le_f, eq_t, eq_f, ne_t, ne_f, nlt_t, nlt_f, nle_t, nle_f, neq_t, neq_f, wrap_id, succ_cast, Int.toNat_natCast, ifB_true, ifB_false, Bool.and_true, Bool.true_and, Bool.and_false, Bool.false_and, Bool.or_true, Bool.true_or, Bool.or_false, Bool.false_or, Bool.not_true, Bool.not_false, bnd_some, bnd_none]
      rfl
    | succ k ih =>
      intro i hi
      have e := ih (i + 1) (by omega)
      rw [hsV, drop_bang (l := a) (by omega), drop_bang (l := b) (by omega), List.cons_beq_cons]
      simp -implicitDefEqProofs (maxSteps := 600000) (disch := omega) only [roomy, List.take_length, neq_t, impB_true, impB_false, impB_self, ge_iff_le, gt_iff_lt, lt_t, lt_f, le_t, le_f, eq_t, eq_f, ne_t, ne_f, nlt_t, nlt_f, nle_t, nle_f, neq_t, neq_f, wrap_id, succ_cast, Int.toNat_natCast, ifB_true, ifB_false, Bool.and_true, Bool.true_and, Bool.and_false, Bool.false_and, Bool.or_true, Bool.true_or, Bool.or_false, Bool.false_or, Bool.not_true, Bool.not_false, bnd_some, bnd_none]
      rw [e]
      clear e ih hsV
      simp only [bne]
      cases a[i]! == b[i]! <;> simp only [impB_true, impB_false, impB_self, Bool.not_true, Bool.not_false, Bool.and_true, Bool.true_and, Bool.and_false, Bool.false_and, Bool.or_true, Bool.true_or, Bool.or_false, Bool.false_or, ifB_true, ifB_false, bnd_some, bnd_none] <;> rfl
  simpa [rB] using key a.length 0 (by omega)
def E_l_eqIntSS : Ent := ⟨34, [LLI, LLI], fun t => ifB (decide (t.1.length ≤ 2097152) && allShort t.1) (rB (t.1 == t.2.1) 2) none⟩
theorem ok_l_eqIntSS (hG : GOk G) : EntOk Tryd.prog G E_l_eqIntSS := by
  refine ent hG (fn := Tryd.f34) (l := [E_l_eqIntS]) (by kernel_rfl) (by kernel_rfl) ⟨ok_l_eqIntS hG, trivial⟩ ?_
  rintro ⟨(a : List (List Int)), (b : List (List Int)), _⟩ r hr
  show evFn env _ 34 Tryd.f34 _ = _
  rw [evFn_run fa34 rfl]
  obtain ⟨h0, hr⟩ := ifB_some hr
  have h0 : (decide (a.length ≤ 2097152) && allShort a) = true := h0
  have h0' : a.length ≤ 2097152 ∧ allShort a = true := by simpa using h0
  obtain ⟨h0', h0s⟩ := h0'
  rw [← hr]
  clear hr h0
  simp -implicitDefEqProofs (maxSteps := 600000) only [go_sem, List.reduceReplicate, Nat.reduceAdd, Nat.reduceSub, Nat.reduceBEq, Nat.reduceMul, Nat.reduceLT, Nat.reduceLeDiff, reduceCtorEq, Nat.reduceEqDiff, Int.reduceBEq, Int.reduceBNe, Int.reduceLT, Int.reduceLE, Int.reduceNeg, List.set_cons_zero, List.set_cons_succ, bytesOf, natsOf, E_l_eqIntS, E_l_eqIntSS]
  refine part' (fun h1 => ?_) (fun h1 => ?_)
  · have : (a == b) = false := by
      have h1' : ¬ (a.length : Int) = b.length := by simpa using h1
      rw [beq_eq_false_iff_ne]
      rintro rfl
      exact h1' rfl
    rw [this]
  have hl : a.length = b.length := by
    have h1' : (a.length : Int) = b.length := by simpa using h1
    omega
  refine loop_use (σ := Int) (fun i => [(5, oi i)]) (fun _ => []) (fun _ => []) 0 rfl ?_
  intro V hfV hsV
  simp -implicitDefEqProofs only [go_sem, List.reduceReplicate, Nat.reduceAdd, Nat.reduceSub, Nat.reduceBEq, Nat.reduceMul, Nat.reduceLT, Nat.reduceLeDiff, reduceCtorEq, Nat.reduceEqDiff, Int.reduceBEq, Int.reduceBNe, Int.reduceLT, Int.reduceLE, Int.reduceNeg, List.set_cons_zero, List.set_cons_succ, bytesOf, natsOf, E_l_eqIntS, E_l_eqIntSS] at hfV
  simp -implicitDefEqProofs (maxSteps := 600000) only [go_sem, List.reduceReplicate, Nat.reduceAdd, Nat.reduceSub, Nat.reduceBEq, Nat.reduceMul, Nat.reduceLT, Nat.reduceLeDiff, reduceCtorEq, Nat.reduceEqDiff, Int.reduceBEq, Int.reduceBNe, Int.reduceLT, Int.reduceLE, Int.reduceNeg, List.set_cons_zero, List.set_cons_succ, bytesOf, natsOf, E_l_eqIntS, E_l_eqIntSS, hfV] at hsV
  clear hfV
  have key : ∀ k i : Nat, i + k = a.length → V (i : Int) = rB (a.drop i == b.drop i) 2 := by
    intro k
    induction k with
    | zero =>
      intro i hi
      rw [hsV, List.drop_eq_nil_of_le (by omega), List.drop_eq_nil_of_le (by omega)]
      simp -implicitDefEqProofs (maxSteps := 600000) (disch := omega) only [roomy, List.take_length, neq_t, impB_true, impB_false, impB_self, ge_iff_le, gt_iff_lt, lt_t, lt_f, le_t, le_f, eq_t, eq_f, ne_t, ne_f, nlt_t, nlt_f, nle_t, nle_f, neq_t, neq_f, wrap_id, succ_cast, Int.toNat_natCast, ifB_true, ifB_false, Bool.and_true, Bool.true_and, Bool.and_false, Bool.false_and, Bool.or_true, Bool.true_or, Bool.or_false, Bool.false_or, Bool.not_true, Bool.not_false, bnd_some, bnd_none]
      rfl
    | succ k ih =>
      intro i hi
      have e := ih (i + 1) (by omega)
      have hsh := allShort_bang h0s (show i < a.length by omega)
      rw [hsV, drop_bang (l := a) (by omega), drop_bang (l := b) (by omega), List.cons_beq_cons]
      simp -implicitDefEqProofs (maxSteps := 600000) (disch := omega) only [roomy, List.take_length, neq_t, impB_true, impB_false, impB_self, ge_iff_le, gt_iff_lt, lt_t, lt_f, le_t, le_f, eq_t, eq_f, ne_t, ne_f, nlt_t, nlt_f, nle_t, nle_f, neq_t, neq_f, wrap_id, succ_cast, Int.toNat_natCast, ifB_true, ifB_false, Bool.and_true, Bool.true_and, Bool.and_false, Bool.false_and, Bool.or_true, Bool.true_or, Bool.or_false, Bool.false_or, Bool.not_true, Bool.not_false, bnd_some, bnd_none]
      rw [e]
      clear e ih hsV
      cases a[i]! == b[i]! <;> simp only [impB_true, impB_false, impB_self, Bool.not_true, Bool.not_false, Bool.and_true, Bool.true_and, Bool.and_false, Bool.false_and, Bool.or_true, Bool.true_or, Bool.or_false, Bool.false_or, ifB_true, ifB_false, bnd_some, bnd_none] <;> rfl
  simpa [rB] using key a.length 0 (by omega)
def E_l_eqGraph : Ent := ⟨32, [kG, kG], fun t => ifB (decide (t.1.2.1.length ≤ 2097152)) (rB (t.1.1 == t.2.1.1 && t.1.2.1 == t.2.1.2.1) 2) none⟩
theorem ok_l_eqGraph (hG : GOk G) : EntOk Tryd.prog G E_l_eqGraph := by
  refine ent hG (fn := Tryd.f32) (l := [E_l_eqIntS]) (by kernel_rfl) (by kernel_rfl) ⟨ok_l_eqIntS hG, trivial⟩ ?_
  rintro ⟨⟨(s : Int), (rows : List Int), _⟩, ⟨(s' : Int), (rows' : List Int), _⟩, _⟩ r hr
  show evFn env _ 32 Tryd.f32 _ = _
  rw [evFn_run fa32 rfl]
  obtain ⟨h0, hr⟩ := ifB_some hr
  have h0' : rows.length ≤ 2097152 := by simpa using h0
  rw [← hr]
  clear hr h0
  simp -implicitDefEqProofs (maxSteps := 600000) only [go_sem, List.reduceReplicate, Nat.reduceAdd, Nat.reduceSub, Nat.reduceBEq, Nat.reduceMul, Nat.reduceLT, Nat.reduceLeDiff, reduceCtorEq, Nat.reduceEqDiff, Int.reduceBEq, Int.reduceBNe, Int.reduceLT, Int.reduceLE, Int.reduceNeg, List.set_cons_zero, List.set_cons_succ, bytesOf, natsOf, E_l_eqIntS, E_l_eqGraph, bne]
  simp -implicitDefEqProofs (maxSteps := 600000) (disch := omega) only [roomy, List.take_length, neq_t, impB_true, impB_false, impB_self, ge_iff_le, gt_iff_lt, lt_t, lt_f, le_t, le_f, eq_t, eq_f, ne_t, ne_f, nlt_t, nlt_f, nle_t, nle_f, neq_t, neq_f, wrap_id, succ_cast, Int.toNat_natCast, ifB_true, ifB_false, Bool.and_true, Bool.true_and, Bool.and_false, Bool.false_and, Bool.or_true, Bool.true_or, Bool.or_false, Bool.false_or, Bool.not_true, Bool.not_false, bnd_some, bnd_none]
  cases s == s' <;> cases rows == rows' <;> rfl
def E_l_eqClaim : Ent := ⟨9, [kC, kC], fun t => ifB (claimSh t.1) (rB (t.1.1 == t.2.1.1 && (t.1.2.1 == t.2.1.2.1 && t.1.2.2.1 == t.2.1.2.2.1 && (t.1.2.2.2.1 == t.2.1.2.2.2.1 && (t.1.2.2.2.2.1 == t.2.1.2.2.2.2.1 && (t.1.2.2.2.2.2.1 == t.2.1.2.2.2.2.2.1 && t.1.2.2.2.2.2.2.1 == t.2.1.2.2.2.2.2.2.1))))) 2) none⟩
theorem ok_l_eqClaim (hG : GOk G) : EntOk Tryd.prog G E_l_eqClaim := by
  refine ent hG (fn := Tryd.f9) (l := [E_l_eqGraph, E_l_eqIntS, E_l_eqIntSS]) (by kernel_rfl) (by kernel_rfl) ⟨ok_l_eqGraph hG, ⟨ok_l_eqIntS hG, ⟨ok_l_eqIntSS hG, trivial⟩⟩⟩ ?_
  rintro ⟨⟨(kd : Int), (s : Int), (rows : List Int), (cls : Bytes), (nums : List Int), (oths : List Int), (edgs : List (List Int)), _⟩, ⟨(kd' : Int), (s' : Int), (rows' : List Int), (cls' : Bytes), (nums' : List Int), (oths' : List Int), (edgs' : List (List Int)), _⟩, _⟩ r hr
  show evFn env _ 9 Tryd.f9 _ = _
  rw [evFn_run fa9 rfl]
  obtain ⟨h0, hr⟩ := ifB_some hr
  have h0' : shortC rows nums oths edgs = true := h0
  have h1 : rows.length ≤ 2097152 ∧ nums.length ≤ 2097152 ∧ oths.length ≤ 2097152 ∧ edgs.length ≤ 2097152 ∧ allShort edgs = true := by
    simp only [shortC, Bool.and_eq_true, decide_eq_true_eq] at h0'
    exact ⟨h0'.1, h0'.2.1, h0'.2.2.1, h0'.2.2.2.1, h0'.2.2.2.2⟩
  have hsh := h1.2.2.2.2
  rw [← hr]
  clear hr h0 h0'
  simp -implicitDefEqProofs (maxSteps := 600000) only [go_sem, List.reduceReplicate, Nat.reduceAdd, Nat.reduceSub, Nat.reduceBEq, Nat.reduceMul, Nat.reduceLT, Nat.reduceLeDiff, reduceCtorEq, Nat.reduceEqDiff, Int.reduceBEq, Int.reduceBNe, Int.reduceLT, Int.reduceLE, Int.reduceNeg, List.set_cons_zero, List.set_cons_succ, bytesOf, natsOf, E_l_eqGraph, E_l_eqIntS, E_l_eqIntSS, E_l_eqClaim, bne]
  simp -implicitDefEqProofs (maxSteps := 600000) (disch := omega) only [roomy, List.take_length, neq_t, impB_true, impB_false, impB_self, ge_iff_le, gt_iff_lt, lt_t, lt_f, le_t, le_f, eq_t, eq_f, ne_t, ne_f, nlt_t, nlt_f, nle_t, nle_f, neq_t, neq_f, wrap_id, succ_cast, Int.toNat_natCast, ifB_true, ifB_false, Bool.and_true, Bool.true_and, Bool.and_false, Bool.false_and, Bool.or_true, Bool.true_or, Bool.or_false, Bool.false_or, Bool.not_true, Bool.not_false, bnd_some, bnd_none, hsh]
  cases kd == kd' <;> cases (s == s' && rows == rows') <;> cases cls == cls' <;> cases nums == nums' <;> cases oths == oths' <;> cases edgs == edgs' <;> rfl
/-- what the law asks of its argument -/
def lawOk (rows : List Int) (cls : Bytes) (nums oths : List Int) (edgs : List (List Int)) : Bool := decide (rows.length ≤ 2097152) && claimOk cls nums oths edgs
def lawTOk (t : kC.T) : Bool := lawOk t.2.2.1 t.2.2.2.1 t.2.2.2.2.1 t.2.2.2.2.2.1 t.2.2.2.2.2.2.1
def E_l_FnExactFormatClaim : Ent := ⟨3, [kC], fun t => ifB (lawTOk t.1) (rB true 1) none⟩
theorem ok_l_FnExactFormatClaim (hG : GOk G) : EntOk Tryd.prog G E_l_FnExactFormatClaim := by
  refine ent hG (fn := Tryd.f3) (l := [E_l_szClaim, E_l_toClaim, E_s_FormatClaim, E_i_FormatClaim, E_l_eqClaim]) (by kernel_rfl) (by kernel_rfl) ⟨ok_l_szClaim hG, ⟨ok_l_toClaim hG, ⟨ok_s_FormatClaim hG, ⟨ok_i_FormatClaim hG, ⟨ok_l_eqClaim hG, trivial⟩⟩⟩⟩⟩ ?_
  rintro ⟨⟨(kd : Int), (s : Int), (rows : List Int), (cls : Bytes), (nums : List Int), (oths : List Int), (edgs : List (List Int)), _⟩, _⟩ r hr
  show evFn env _ 3 Tryd.f3 _ = _
  rw [evFn_run fa3 rfl]
  obtain ⟨h0, hr⟩ := ifB_some hr
  have h0' : lawOk rows cls nums oths edgs = true := h0
  rw [← hr]
  clear hr h0
  have h1 : rows.length ≤ 2097152 ∧ claimOk cls nums oths edgs = true := by simpa [lawOk] using h0'
  obtain ⟨hc, hn, hnl, ho, hol, he, hel⟩ := claimOk_spec h1.2
  have hlen := sumLen_len edgs
  have hsh : shortC rows nums oths edgs = true := by
    simp only [shortC, Bool.and_eq_true, decide_eq_true_eq]
    exact ⟨h1.1, hnl, hol, by omega, allShort_of hel⟩
  have hS : claimSh (kd, s, rows, cls, nums, oths, edgs, ()) = true := hsh
  have hO : claimTOk (kd, s, rows, cls, nums, oths, edgs, ()) = true := h1.2
  have hN : okN 1048576 = true := rfl
  have hcl := nle_t hc
  simp -implicitDefEqProofs (maxSteps := 600000) only [go_sem, List.reduceReplicate, Nat.reduceAdd, Nat.reduceSub, Nat.reduceBEq, Nat.reduceMul, Nat.reduceLT, Nat.reduceLeDiff, reduceCtorEq, Nat.reduceEqDiff, Int.reduceBEq, Int.reduceBNe, Int.reduceLT, Int.reduceLE, Int.reduceNeg, List.set_cons_zero, List.set_cons_succ, bytesOf, natsOf, E_l_szClaim, E_l_toClaim, E_s_FormatClaim, E_i_FormatClaim, E_l_eqClaim, E_l_FnExactFormatClaim, List.take_length, hS, hO, hN, hcl]
  cases decide (szC rows cls nums oths edgs 1048576 < 0) <;> rfl
end Go.Ev
