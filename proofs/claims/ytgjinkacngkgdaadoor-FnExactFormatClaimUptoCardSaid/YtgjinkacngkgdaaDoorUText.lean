/- A part of the proof: unit Text. -/
import Derived.Test.YtgjinkacngkgdaaDoorUTextM
namespace Go.Ev
open Go.Proofs
set_option linter.unusedSimpArgs false
set_option linter.unusedVariables false
set_option maxRecDepth 20000
set_option maxHeartbeats 4000000
variable {G : World → Prop}
def E_i_listed : Ent := ⟨48, [LS], fun t => ifB (decide (t.1.length ≤ 140737488355328) && decide ((Lib.join t.1 [44]).length ≤ 140737488355328)) (rS (orNone (Lib.join t.1 [44])) 1) none⟩
theorem ok_i_listed (hG : GOk G) : EntOk Tryd.prog G E_i_listed := by
  refine ent hG (fn := Tryd.f48) (l := [E_strings_Join]) (by kernel_rfl) (by kernel_rfl) ⟨ok_strings_Join hG, trivial⟩ ?_
  rintro ⟨l, _⟩ r hr
  show evFn env _ 48 Tryd.f48 _ = _
  rw [evFn_run fa48 rfl]
  rw [← hr]
  simp -implicitDefEqProofs (maxSteps := 600000) only [go_sem, List.reduceReplicate, Nat.reduceAdd, Nat.reduceSub, Nat.reduceBEq, Nat.reduceMul, Nat.reduceLT, Nat.reduceLeDiff, reduceCtorEq, Nat.reduceEqDiff, Int.reduceBEq, Int.reduceBNe, Int.reduceLT, Int.reduceLE, Int.reduceNeg, List.set_cons_zero, List.set_cons_succ, bytesOf, natsOf, E_strings_Join, E_i_listed, orNone, wNone]
  cases Lib.join l [44] == [] <;> rfl
def E_i_digits : Ent := ⟨47, [LI], fun t => ifB (allI t.1 && decide (t.1.length ≤ 2097152)) (rS (digitsOf t.1) 1) none⟩
theorem ok_i_digits (hG : GOk G) : EntOk Tryd.prog G E_i_digits := by
  refine ent hG (fn := Tryd.f47) (l := [E_i_FormatInt]) (by kernel_rfl) (by kernel_rfl) ⟨ok_i_FormatInt hG, trivial⟩ ?_
  rintro ⟨(l : List Int), _⟩ r hr
  show evFn env _ 47 Tryd.f47 _ = _
  rw [evFn_run fa47 rfl]
  obtain ⟨h1, hr⟩ := ifB_some hr
  rw [← hr]
  clear hr
  have h2 : allI l = true ∧ l.length ≤ 2097152 := by simpa using h1
  simp -implicitDefEqProofs (maxSteps := 600000) only [go_sem, List.reduceReplicate, Nat.reduceAdd, Nat.reduceSub, Nat.reduceBEq, Nat.reduceMul, Nat.reduceLT, Nat.reduceLeDiff, reduceCtorEq, Nat.reduceEqDiff, Int.reduceBEq, Int.reduceBNe, Int.reduceLT, Int.reduceLE, Int.reduceNeg, List.set_cons_zero, List.set_cons_succ, bytesOf, natsOf, E_i_FormatInt, E_i_digits]
  refine loop_use (σ := Int × Bytes) (fun s => [(8, oi s.1), (3, os s.2)]) (fun _ => []) (fun _ => []) (0, []) rfl ?_
  intro V hfV hsV
  replace hfV := fun (x1 : Int) (x2 : Bytes) => hfV (x1, x2)
  replace hsV := fun (x1 : Int) (x2 : Bytes) => hsV (x1, x2)
  simp -implicitDefEqProofs only [go_sem, List.reduceReplicate, Nat.reduceAdd, Nat.reduceSub, Nat.reduceBEq, Nat.reduceMul, Nat.reduceLT, Nat.reduceLeDiff, reduceCtorEq, Nat.reduceEqDiff, Int.reduceBEq, Int.reduceBNe, Int.reduceLT, Int.reduceLE, Int.reduceNeg, List.set_cons_zero, List.set_cons_succ, bytesOf, natsOf, E_i_FormatInt, E_i_digits] at hfV
  simp -implicitDefEqProofs (maxSteps := 600000) only [go_sem, List.reduceReplicate, Nat.reduceAdd, Nat.reduceSub, Nat.reduceBEq, Nat.reduceMul, Nat.reduceLT, Nat.reduceLeDiff, reduceCtorEq, Nat.reduceEqDiff, Int.reduceBEq, Int.reduceBNe, Int.reduceLT, Int.reduceLE, Int.reduceNeg, List.set_cons_zero, List.set_cons_succ, bytesOf, natsOf, E_i_FormatInt, E_i_digits, hfV] at hsV
  clear hfV
  have key : ∀ k i : Nat, ∀ x : Bytes, i + k = l.length → x.length + 20 * k ≤ 20 * 2097152 → V ((i : Int), x) = rS (x ++ digitsOf (l.drop i)) 1 := by
    intro k
    induction k with
    | zero =>
      intro i x hi hx
      rw [hsV, List.drop_eq_nil_of_le (by omega)]
      simp -implicitDefEqProofs (maxSteps := 600000) (disch := omega) only [roomy, List.take_length, neq_t, impB_true, impB_false, impB_self, ge_iff_le, gt_iff_lt, lt_t, lt_f, le_t, le_f, eq_t, eq_f, ne_t, ne_f, nlt_t, nlt_f, nle_t, nle_f, neq_t, neq_f, wrap_id, succ_cast, Int.toNat_natCast, ifB_true, ifB_false, Bool.and_true, Bool.true_and, Bool.and_false, Bool.false_and, Bool.or_true, Bool.true_or, Bool.or_false, Bool.false_or, Bool.not_true, Bool.not_false, bnd_some, bnd_none]
      simp [digitsOf, rS]
    | succ k ih =>
      intro i x hi hx
      have h3 := allI_bang h2.1 (show i < l.length by omega)
      have h4 := itoa_len h3
      rw [hsV, digitsOf_drop (by omega), ← List.append_assoc]
      simp -implicitDefEqProofs (maxSteps := 600000) (disch := omega) only [roomy, List.take_length, neq_t, impB_true, impB_false, impB_self, ge_iff_le, gt_iff_lt, lt_t, lt_f, le_t, le_f, eq_t, eq_f, ne_t, ne_f, nlt_t, nlt_f, nle_t, nle_f, neq_t, neq_f, wrap_id, succ_cast, Int.toNat_natCast, ifB_true, ifB_false, Bool.and_true, Bool.true_and, Bool.and_false, Bool.false_and, Bool.or_true, Bool.true_or, Bool.or_false, Bool.false_or, Bool.not_true, Bool.not_false, bnd_some, bnd_none, h3]
      exact ih (i + 1) (x ++ Lib.itoa l[i]!) (by omega) (by simp only [List.length_append]; omega)
  have := key l.length 0 [] (by omega) (by simp only [List.length_nil]; omega)
  simpa [rS] using this
def E_i_numbersText : Ent := ⟨30, [LI], fun t => ifB (allI t.1 && decide (t.1.length ≤ 2097152)) (rS (numsOf t.1) 1) none⟩
theorem ok_i_numbersText (hG : GOk G) : EntOk Tryd.prog G E_i_numbersText := by
  refine ent hG (fn := Tryd.f30) (l := [E_i_FormatInt, E_i_listed]) (by kernel_rfl) (by kernel_rfl) ⟨ok_i_FormatInt hG, ⟨ok_i_listed hG, trivial⟩⟩ ?_
  rintro ⟨(l : List Int), _⟩ r hr
  show evFn env _ 30 Tryd.f30 _ = _
  rw [evFn_run fa30 rfl]
  obtain ⟨h1, hr⟩ := ifB_some hr
  rw [← hr]
  clear hr
  have h2 : allI l = true ∧ l.length ≤ 2097152 := by simpa using h1
  simp -implicitDefEqProofs (maxSteps := 600000) only [go_sem, List.reduceReplicate, Nat.reduceAdd, Nat.reduceSub, Nat.reduceBEq, Nat.reduceMul, Nat.reduceLT, Nat.reduceLeDiff, reduceCtorEq, Nat.reduceEqDiff, Int.reduceBEq, Int.reduceBNe, Int.reduceLT, Int.reduceLE, Int.reduceNeg, List.set_cons_zero, List.set_cons_succ, bytesOf, natsOf, E_i_FormatInt, E_i_listed, E_i_numbersText]
  refine loop_use (σ := Int × Nat × List Bytes) (fun s => [(9, oi s.1), (3, .one (.hdr .str 3000 0 s.2.1))]) (fun s => [(3000, ⟨.str, s.2.2⟩)]) (fun _ => []) (0, 0, []) rfl ?_
  intro V hfV hsV
  replace hfV := fun (x1 : Int) (x2 : Nat) (x3 : List Bytes) => hfV (x1, x2, x3)
  replace hsV := fun (x1 : Int) (x2 : Nat) (x3 : List Bytes) => hsV (x1, x2, x3)
  simp -implicitDefEqProofs only [go_sem, List.reduceReplicate, Nat.reduceAdd, Nat.reduceSub, Nat.reduceBEq, Nat.reduceMul, Nat.reduceLT, Nat.reduceLeDiff, reduceCtorEq, Nat.reduceEqDiff, Int.reduceBEq, Int.reduceBNe, Int.reduceLT, Int.reduceLE, Int.reduceNeg, List.set_cons_zero, List.set_cons_succ, bytesOf, natsOf, E_i_FormatInt, E_i_listed, E_i_numbersText] at hfV
  simp -implicitDefEqProofs (maxSteps := 600000) only [go_sem, List.reduceReplicate, Nat.reduceAdd, Nat.reduceSub, Nat.reduceBEq, Nat.reduceMul, Nat.reduceLT, Nat.reduceLeDiff, reduceCtorEq, Nat.reduceEqDiff, Int.reduceBEq, Int.reduceBNe, Int.reduceLT, Int.reduceLE, Int.reduceNeg, List.set_cons_zero, List.set_cons_succ, bytesOf, natsOf, E_i_FormatInt, E_i_listed, E_i_numbersText, hfV] at hsV
  clear hfV
  have key : ∀ k i : Nat, ∀ x : List Bytes, i + k = l.length → x.length = i → (∀ y ∈ x, y.length ≤ 20) → V ((i : Int), x.length, x) = rS (orNone (Lib.join (x ++ (l.drop i).map Lib.itoa) [44])) 1 := by
    intro k
    induction k with
    | zero =>
      intro i x hi hx hy
      have hj := join_len (sep := [44]) (r := x) hy
      simp only [List.length_cons, List.length_nil] at hj
      rw [hsV, List.drop_eq_nil_of_le (by omega), List.map_nil, List.append_nil]
      simp -implicitDefEqProofs (maxSteps := 600000) (disch := omega) only [roomy, List.take_length, neq_t, impB_true, impB_false, impB_self, ge_iff_le, gt_iff_lt, lt_t, lt_f, le_t, le_f, eq_t, eq_f, ne_t, ne_f, nlt_t, nlt_f, nle_t, nle_f, neq_t, neq_f, wrap_id, succ_cast, Int.toNat_natCast, ifB_true, ifB_false, Bool.and_true, Bool.true_and, Bool.and_false, Bool.false_and, Bool.or_true, Bool.true_or, Bool.or_false, Bool.false_or, Bool.not_true, Bool.not_false, bnd_some, bnd_none]
      rfl
    | succ k ih =>
      intro i x hi hx hy
      have h3 := allI_bang h2.1 (show i < l.length by omega)
      have h4 := itoa_len h3
      have e := ih (i + 1) (x ++ [Lib.itoa l[i]!]) (by omega) (by simp; omega) (by
        intro y hm
        rcases List.mem_append.1 hm with hm | hm
        · exact hy y hm
        · simp only [List.mem_singleton] at hm; subst hm; exact h4)
      rw [hsV, drop_bang (by omega), List.map_cons]
      rw [List.append_assoc, List.singleton_append, List.length_append, List.length_singleton] at e
      simp -implicitDefEqProofs (maxSteps := 600000) (disch := omega) only [roomy, List.take_length, neq_t, impB_true, impB_false, impB_self, ge_iff_le, gt_iff_lt, lt_t, lt_f, le_t, le_f, eq_t, eq_f, ne_t, ne_f, nlt_t, nlt_f, nle_t, nle_f, neq_t, neq_f, wrap_id, succ_cast, Int.toNat_natCast, ifB_true, ifB_false, Bool.and_true, Bool.true_and, Bool.and_false, Bool.false_and, Bool.or_true, Bool.true_or, Bool.or_false, Bool.false_or, Bool.not_true, Bool.not_false, bnd_some, bnd_none, h3]
      exact e
  simpa [rS, numsOf] using key l.length 0 [] (by omega) rfl (by simp)
def E_i_edgesText : Ent := ⟨29, [LLI], fun t => ifB (allII t.1 && decide (sumLen t.1 ≤ 2097152)) (rS (edgsOf t.1) 1) none⟩
theorem ok_i_edgesText (hG : GOk G) : EntOk Tryd.prog G E_i_edgesText := by
  refine ent hG (fn := Tryd.f29) (l := [E_i_digits, E_i_listed]) (by kernel_rfl) (by kernel_rfl) ⟨ok_i_digits hG, ⟨ok_i_listed hG, trivial⟩⟩ ?_
  rintro ⟨(l : List (List Int)), _⟩ r hr
  show evFn env _ 29 Tryd.f29 _ = _
  rw [evFn_run fa29 rfl]
  obtain ⟨h1, hr⟩ := ifB_some hr
  rw [← hr]
  clear hr
  have h2 : allII l = true ∧ sumLen l ≤ 2097152 := by simpa using h1
  have h0 := sumLen_len l
  simp -implicitDefEqProofs (maxSteps := 600000) only [go_sem, List.reduceReplicate, Nat.reduceAdd, Nat.reduceSub, Nat.reduceBEq, Nat.reduceMul, Nat.reduceLT, Nat.reduceLeDiff, reduceCtorEq, Nat.reduceEqDiff, Int.reduceBEq, Int.reduceBNe, Int.reduceLT, Int.reduceLE, Int.reduceNeg, List.set_cons_zero, List.set_cons_succ, bytesOf, natsOf, E_i_digits, E_i_listed, E_i_edgesText]
  refine loop_use (σ := Int × Nat × List Bytes) (fun s => [(9, oi s.1), (3, .one (.hdr .str 3000 0 s.2.1))]) (fun s => [(3000, ⟨.str, s.2.2⟩)]) (fun _ => []) (0, 0, []) rfl ?_
  intro V hfV hsV
  replace hfV := fun (x1 : Int) (x2 : Nat) (x3 : List Bytes) => hfV (x1, x2, x3)
  replace hsV := fun (x1 : Int) (x2 : Nat) (x3 : List Bytes) => hsV (x1, x2, x3)
  simp -implicitDefEqProofs only [go_sem, List.reduceReplicate, Nat.reduceAdd, Nat.reduceSub, Nat.reduceBEq, Nat.reduceMul, Nat.reduceLT, Nat.reduceLeDiff, reduceCtorEq, Nat.reduceEqDiff, Int.reduceBEq, Int.reduceBNe, Int.reduceLT, Int.reduceLE, Int.reduceNeg, List.set_cons_zero, List.set_cons_succ, bytesOf, natsOf, E_i_digits, E_i_listed, E_i_edgesText] at hfV
  simp -implicitDefEqProofs (maxSteps := 600000) only [go_sem, List.reduceReplicate, Nat.reduceAdd, Nat.reduceSub, Nat.reduceBEq, Nat.reduceMul, Nat.reduceLT, Nat.reduceLeDiff, reduceCtorEq, Nat.reduceEqDiff, Int.reduceBEq, Int.reduceBNe, Int.reduceLT, Int.reduceLE, Int.reduceNeg, List.set_cons_zero, List.set_cons_succ, bytesOf, natsOf, E_i_digits, E_i_listed, E_i_edgesText, hfV] at hsV
  clear hfV
  have key : ∀ k i : Nat, ∀ x : List Bytes, i + k = l.length → x.length = i → (∀ y ∈ x, y.length ≤ 41943040) → V ((i : Int), x.length, x) = rS (orNone (Lib.join (x ++ (l.drop i).map digitsOf) [44])) 1 := by
    intro k
    induction k with
    | zero =>
      intro i x hi hx hy
      have hj := join_len (sep := [44]) (r := x) hy
      simp only [List.length_cons, List.length_nil] at hj
      rw [hsV, List.drop_eq_nil_of_le (by omega), List.map_nil, List.append_nil]
      simp -implicitDefEqProofs (maxSteps := 600000) (disch := omega) only [roomy, List.take_length, neq_t, impB_true, impB_false, impB_self, ge_iff_le, gt_iff_lt, lt_t, lt_f, le_t, le_f, eq_t, eq_f, ne_t, ne_f, nlt_t, nlt_f, nle_t, nle_f, neq_t, neq_f, wrap_id, succ_cast, Int.toNat_natCast, ifB_true, ifB_false, Bool.and_true, Bool.true_and, Bool.and_false, Bool.false_and, Bool.or_true, Bool.true_or, Bool.or_false, Bool.false_or, Bool.not_true, Bool.not_false, bnd_some, bnd_none]
      rfl
    | succ k ih =>
      intro i x hi hx hy
      have h3 := allII_bang h2.1 (show i < l.length by omega)
      have h4 := digitsOf_len h3
      have h5 := sumLen_bang (show i < l.length by omega)
      have e := ih (i + 1) (x ++ [digitsOf l[i]!]) (by omega) (by simp; omega) (by
        intro y hm
        rcases List.mem_append.1 hm with hm | hm
        · exact hy y hm
        · simp only [List.mem_singleton] at hm; subst hm; omega)
      rw [hsV, drop_bang (by omega), List.map_cons]
      rw [List.append_assoc, List.singleton_append, List.length_append, List.length_singleton] at e
      simp -implicitDefEqProofs (maxSteps := 600000) (disch := omega) only [roomy, List.take_length, neq_t, impB_true, impB_false, impB_self, ge_iff_le, gt_iff_lt, lt_t, lt_f, le_t, le_f, eq_t, eq_f, ne_t, ne_f, nlt_t, nlt_f, nle_t, nle_f, neq_t, neq_f, wrap_id, succ_cast, Int.toNat_natCast, ifB_true, ifB_false, Bool.and_true, Bool.true_and, Bool.and_false, Bool.false_and, Bool.or_true, Bool.true_or, Bool.or_false, Bool.false_or, Bool.not_true, Bool.not_false, bnd_some, bnd_none, h3]
      exact e
  simpa [rS, edgsOf] using key l.length 0 [] (by omega) rfl (by simp)
def E_s_l33Numbers : Ent := ⟨20, [LI], fun t => ifB (allI t.1 && decide (t.1.length ≤ 2097152)) (rS (numsOf t.1) 1) none⟩
theorem ok_s_l33Numbers (hG : GOk G) : EntOk Tryd.prog G E_s_l33Numbers := by
  refine ent hG (fn := Tryd.f20) (l := [E_s_FormatInt]) (by kernel_rfl) (by kernel_rfl) ⟨ok_s_FormatInt hG, trivial⟩ ?_
  rintro ⟨(l : List Int), _⟩ r hr
  show evFn env _ 20 Tryd.f20 _ = _
  rw [evFn_run fa20 rfl]
  obtain ⟨h1, hr⟩ := ifB_some hr
  rw [← hr]
  clear hr
  have h2 : allI l = true ∧ l.length ≤ 2097152 := by simpa using h1
  simp -implicitDefEqProofs (maxSteps := 600000) only [go_sem, List.reduceReplicate, Nat.reduceAdd, Nat.reduceSub, Nat.reduceBEq, Nat.reduceMul, Nat.reduceLT, Nat.reduceLeDiff, reduceCtorEq, Nat.reduceEqDiff, Int.reduceBEq, Int.reduceBNe, Int.reduceLT, Int.reduceLE, Int.reduceNeg, List.set_cons_zero, List.set_cons_succ, bytesOf, natsOf, E_s_FormatInt, E_s_l33Numbers]
  refine loop_use (σ := Int × Bytes) (fun s => [(4, oi s.1), (3, os s.2)]) (fun _ => []) (fun _ => []) (0, []) rfl ?_
  intro V hfV hsV
  replace hfV := fun (x1 : Int) (x2 : Bytes) => hfV (x1, x2)
  replace hsV := fun (x1 : Int) (x2 : Bytes) => hsV (x1, x2)
  simp -implicitDefEqProofs only [go_sem, List.reduceReplicate, Nat.reduceAdd, Nat.reduceSub, Nat.reduceBEq, Nat.reduceMul, Nat.reduceLT, Nat.reduceLeDiff, reduceCtorEq, Nat.reduceEqDiff, Int.reduceBEq, Int.reduceBNe, Int.reduceLT, Int.reduceLE, Int.reduceNeg, List.set_cons_zero, List.set_cons_succ, bytesOf, natsOf, E_s_FormatInt, E_s_l33Numbers] at hfV
  simp -implicitDefEqProofs (maxSteps := 600000) only [go_sem, List.reduceReplicate, Nat.reduceAdd, Nat.reduceSub, Nat.reduceBEq, Nat.reduceMul, Nat.reduceLT, Nat.reduceLeDiff, reduceCtorEq, Nat.reduceEqDiff, Int.reduceBEq, Int.reduceBNe, Int.reduceLT, Int.reduceLE, Int.reduceNeg, List.set_cons_zero, List.set_cons_succ, bytesOf, natsOf, E_s_FormatInt, E_s_l33Numbers, hfV] at hsV
  clear hfV
  have key : ∀ k i : Nat, ∀ x : Bytes, i + k = l.length → 0 < i → x.length + 21 * k ≤ 21 * 2097152 → V ((i : Int), x) = rS (orNone (x ++ Lib.joinTail [44] ((l.drop i).map Lib.itoa))) 1 := by
    intro k
    induction k with
    | zero =>
      intro i x hi h0 hx
      rw [hsV, List.drop_eq_nil_of_le (by omega)]
      simp -implicitDefEqProofs (maxSteps := 600000) (disch := omega) only [roomy, List.take_length, neq_t, impB_true, impB_false, impB_self, ge_iff_le, gt_iff_lt, lt_t, lt_f, le_t, le_f, eq_t, eq_f, ne_t, ne_f, nlt_t, nlt_f, nle_t, nle_f, neq_t, neq_f, wrap_id, succ_cast, Int.toNat_natCast, ifB_true, ifB_false, Bool.and_true, Bool.true_and, Bool.and_false, Bool.false_and, Bool.or_true, Bool.true_or, Bool.or_false, Bool.false_or, Bool.not_true, Bool.not_false, bnd_some, bnd_none]
      simp only [List.map_nil, Lib.joinTail, List.flatten_nil, List.append_nil, orNone, wNone, rS]
      cases x == [] <;> rfl
    | succ k ih =>
      intro i x hi h0 hx
      have h3 := allI_bang h2.1 (show i < l.length by omega)
      have h4 := itoa_len h3
      rw [hsV, drop_bang (by omega), List.map_cons, joinTail_cons, ← List.append_assoc, ← List.append_assoc]
      simp -implicitDefEqProofs (maxSteps := 600000) (disch := omega) only [roomy, List.take_length, neq_t, impB_true, impB_false, impB_self, ge_iff_le, gt_iff_lt, lt_t, lt_f, le_t, le_f, eq_t, eq_f, ne_t, ne_f, nlt_t, nlt_f, nle_t, nle_f, neq_t, neq_f, wrap_id, succ_cast, Int.toNat_natCast, ifB_true, ifB_false, Bool.and_true, Bool.true_and, Bool.and_false, Bool.false_and, Bool.or_true, Bool.true_or, Bool.or_false, Bool.false_or, Bool.not_true, Bool.not_false, bnd_some, bnd_none, h3, List.length_append, List.length_singleton]
      exact ih (i + 1) (x ++ [44] ++ Lib.itoa l[i]!) (by omega) (by omega) (by simp only [List.length_append, List.length_singleton]; omega)
  by_cases hn : l.length = 0
  · have : l = [] := List.eq_nil_of_length_eq_zero hn
    subst this
    rw [hsV]
    rfl
  · have h3 := allI_bang h2.1 (show 0 < l.length by omega)
    have h4 := itoa_len h3
    have e := key (l.length - 1) 1 (Lib.itoa l[0]!) (by omega) (by omega) (by omega)
    have hl : numsOf l = orNone (Lib.itoa l[0]! ++ Lib.joinTail [44] ((l.drop 1).map Lib.itoa)) := by
      have := drop_bang (l := l) (i := 0) (by omega)
      rw [List.drop_zero] at this
      unfold numsOf
      rw [this, List.map_cons, Lib.join_cons, ← this]
    rw [hl, hsV]
    simp -implicitDefEqProofs (maxSteps := 600000) (disch := omega) only [roomy, List.take_length, neq_t, impB_true, impB_false, impB_self, ge_iff_le, gt_iff_lt, lt_t, lt_f, le_t, le_f, eq_t, eq_f, ne_t, ne_f, nlt_t, nlt_f, nle_t, nle_f, neq_t, neq_f, wrap_id, succ_cast, Int.toNat_natCast, ifB_true, ifB_false, Bool.and_true, Bool.true_and, Bool.and_false, Bool.false_and, Bool.or_true, Bool.true_or, Bool.or_false, Bool.false_or, Bool.not_true, Bool.not_false, bnd_some, bnd_none, h3, Int.toNat_zero, List.nil_append, List.length_nil]
    exact e
def E_s_l33Edges : Ent := ⟨21, [LLI], fun t => ifB (allII t.1 && decide (sumLen t.1 ≤ 2097152)) (rS (edgsOf t.1) 1) none⟩
theorem ok_s_l33Edges (hG : GOk G) : EntOk Tryd.prog G E_s_l33Edges := by
  refine ent hG (fn := Tryd.f21) (l := [E_s_FormatInt]) (by kernel_rfl) (by kernel_rfl) ⟨ok_s_FormatInt hG, trivial⟩ ?_
  rintro ⟨(l : List (List Int)), _⟩ r hr
  show evFn env _ 21 Tryd.f21 _ = _
  rw [evFn_run fa21 rfl]
  obtain ⟨h1, hr⟩ := ifB_some hr
  rw [← hr]
  clear hr
  have h2 : allII l = true ∧ sumLen l ≤ 2097152 := by simpa using h1
  have hn := sumLen_len l
  simp -implicitDefEqProofs (maxSteps := 600000) only [go_sem, List.reduceReplicate, Nat.reduceAdd, Nat.reduceSub, Nat.reduceBEq, Nat.reduceMul, Nat.reduceLT, Nat.reduceLeDiff, reduceCtorEq, Nat.reduceEqDiff, Int.reduceBEq, Int.reduceBNe, Int.reduceLT, Int.reduceLE, Int.reduceNeg, List.set_cons_zero, List.set_cons_succ, bytesOf, natsOf, E_s_FormatInt, E_s_l33Edges]
  refine loop_use (σ := Int × Bytes) (fun s => [(4, oi s.1), (3, os s.2)]) (fun _ => []) (fun _ => []) (0, []) rfl ?_
  intro V hfV hsV
  replace hfV := fun (x1 : Int) (x2 : Bytes) => hfV (x1, x2)
  replace hsV := fun (x1 : Int) (x2 : Bytes) => hsV (x1, x2)
  simp -implicitDefEqProofs only [go_sem, List.reduceReplicate, Nat.reduceAdd, Nat.reduceSub, Nat.reduceBEq, Nat.reduceMul, Nat.reduceLT, Nat.reduceLeDiff, reduceCtorEq, Nat.reduceEqDiff, Int.reduceBEq, Int.reduceBNe, Int.reduceLT, Int.reduceLE, Int.reduceNeg, List.set_cons_zero, List.set_cons_succ, bytesOf, natsOf, E_s_FormatInt, E_s_l33Edges] at hfV
  simp -implicitDefEqProofs (maxSteps := 600000) only [go_sem, List.reduceReplicate, Nat.reduceAdd, Nat.reduceSub, Nat.reduceBEq, Nat.reduceMul, Nat.reduceLT, Nat.reduceLeDiff, reduceCtorEq, Nat.reduceEqDiff, Int.reduceBEq, Int.reduceBNe, Int.reduceLT, Int.reduceLE, Int.reduceNeg, List.set_cons_zero, List.set_cons_succ, bytesOf, natsOf, E_s_FormatInt, E_s_l33Edges, hfV] at hsV
  have key : ∀ k i : Nat, ∀ x : Bytes, i + k = l.length → 0 < i → x.length ≤ 21 * (sumLen l - sumLen (l.drop i)) → V ((i : Int), x) = rS (orNone (x ++ Lib.joinTail [44] ((l.drop i).map digitsOf))) 1 := by
    intro k
    induction k with
    | zero =>
      intro i x hi h0 hx
      rw [hsV, List.drop_eq_nil_of_le (by omega)]
      simp -implicitDefEqProofs (maxSteps := 600000) (disch := omega) only [roomy, List.take_length, neq_t, impB_true, impB_false, impB_self, ge_iff_le, gt_iff_lt, lt_t, lt_f, le_t, le_f, eq_t, eq_f, ne_t, ne_f, nlt_t, nlt_f, nle_t, nle_f, neq_t, neq_f, wrap_id, succ_cast, Int.toNat_natCast, ifB_true, ifB_false, Bool.and_true, Bool.true_and, Bool.and_false, Bool.false_and, Bool.or_true, Bool.true_or, Bool.or_false, Bool.false_or, Bool.not_true, Bool.not_false, bnd_some, bnd_none]
      simp only [List.map_nil, Lib.joinTail, List.flatten_nil, List.append_nil, orNone, wNone, rS]
      cases x == [] <;> rfl
    | succ k ih =>
      intro i x hi h0 hx
      have h3 := allII_bang h2.1 (show i < l.length by omega)
      have h5 := sumLen_drop (show i < l.length by omega)
      have h6 := sumLen_le l i
      rw [hsV, drop_bang (by omega), List.map_cons, joinTail_cons, ← List.append_assoc, ← List.append_assoc]
      simp -implicitDefEqProofs (maxSteps := 600000) (disch := omega) only [roomy, List.take_length, neq_t, impB_true, impB_false, impB_self, ge_iff_le, gt_iff_lt, lt_t, lt_f, le_t, le_f, eq_t, eq_f, ne_t, ne_f, nlt_t, nlt_f, nle_t, nle_f, neq_t, neq_f, wrap_id, succ_cast, Int.toNat_natCast, ifB_true, ifB_false, Bool.and_true, Bool.true_and, Bool.and_false, Bool.false_and, Bool.or_true, Bool.true_or, Bool.or_false, Bool.false_or, Bool.not_true, Bool.not_false, bnd_some, bnd_none, List.length_append, List.length_singleton]
      refine loop_use (σ := Int × Bytes) (fun s => [(5, oi s.1), (3, os s.2)]) (fun _ => []) (fun _ => []) (0, x ++ [44]) rfl ?_
      intro W hfW hsW
      replace hfW := fun (x1 : Int) (x2 : Bytes) => hfW (x1, x2)
      replace hsW := fun (x1 : Int) (x2 : Bytes) => hsW (x1, x2)
      simp -implicitDefEqProofs only [go_sem, List.reduceReplicate, Nat.reduceAdd, Nat.reduceSub, Nat.reduceBEq, Nat.reduceMul, Nat.reduceLT, Nat.reduceLeDiff, reduceCtorEq, Nat.reduceEqDiff, Int.reduceBEq, Int.reduceBNe, Int.reduceLT, Int.reduceLE, Int.reduceNeg, List.set_cons_zero, List.set_cons_succ, bytesOf, natsOf, E_s_FormatInt, E_s_l33Edges, hfV] at hfW
      simp -implicitDefEqProofs (maxSteps := 600000) only [go_sem, List.reduceReplicate, Nat.reduceAdd, Nat.reduceSub, Nat.reduceBEq, Nat.reduceMul, Nat.reduceLT, Nat.reduceLeDiff, reduceCtorEq, Nat.reduceEqDiff, Int.reduceBEq, Int.reduceBNe, Int.reduceLT, Int.reduceLE, Int.reduceNeg, List.set_cons_zero, List.set_cons_succ, bytesOf, natsOf, E_s_FormatInt, E_s_l33Edges, hfV, hfW] at hsW
      clear hfW hfV hsV
      have key2 : ∀ k j : Nat, ∀ y : Bytes, j + k = l[i]!.length → y.length + 20 * k ≤ x.length + 1 + 20 * l[i]!.length → W ((j : Int), y) = rS (orNone (y ++ digitsOf (l[i]!.drop j) ++ Lib.joinTail [44] ((l.drop (i + 1)).map digitsOf))) 1 := by
        intro k
        induction k with
        | zero =>
          intro j y hj hy
          rw [hsW, List.drop_eq_nil_of_le (by omega)]
          simp -implicitDefEqProofs (maxSteps := 600000) (disch := omega) only [roomy, List.take_length, neq_t, impB_true, impB_false, impB_self, ge_iff_le, gt_iff_lt, lt_t, lt_f, le_t, le_f, eq_t, eq_f, ne_t, ne_f, nlt_t, nlt_f, nle_t, nle_f, neq_t, neq_f, wrap_id, succ_cast, Int.toNat_natCast, ifB_true, ifB_false, Bool.and_true, Bool.true_and, Bool.and_false, Bool.false_and, Bool.or_true, Bool.true_or, Bool.or_false, Bool.false_or, Bool.not_true, Bool.not_false, bnd_some, bnd_none, Int.toNat_zero]
          rw [show digitsOf [] = [] from rfl, List.append_nil]
          exact ih (i + 1) y (by omega) (by omega) (by omega)
        | succ k ih' =>
          intro j y hj hy
          have h7 := allI_bang h3 (show j < l[i]!.length by omega)
          have h8 := itoa_len h7
          rw [hsW, digitsOf_drop (by omega), ← List.append_assoc]
          simp -implicitDefEqProofs (maxSteps := 600000) (disch := omega) only [roomy, List.take_length, neq_t, impB_true, impB_false, impB_self, ge_iff_le, gt_iff_lt, lt_t, lt_f, le_t, le_f, eq_t, eq_f, ne_t, ne_f, nlt_t, nlt_f, nle_t, nle_f, neq_t, neq_f, wrap_id, succ_cast, Int.toNat_natCast, ifB_true, ifB_false, Bool.and_true, Bool.true_and, Bool.and_false, Bool.false_and, Bool.or_true, Bool.true_or, Bool.or_false, Bool.false_or, Bool.not_true, Bool.not_false, bnd_some, bnd_none, h7, Int.toNat_zero]
          exact ih' (j + 1) (y ++ Lib.itoa l[i]![j]!) (by omega) (by simp only [List.length_append]; omega)
      have e := key2 l[i]!.length 0 (x ++ [44]) (by omega) (by simp only [List.length_append, List.length_singleton]; omega)
      rw [List.drop_zero] at e
      simpa using e
  by_cases h0 : l.length = 0
  · have : l = [] := List.eq_nil_of_length_eq_zero h0
    subst this
    rw [hsV]
    rfl
  · have h3 := allII_bang h2.1 (show 0 < l.length by omega)
    have hl : edgsOf l = orNone (digitsOf l[0]! ++ Lib.joinTail [44] ((l.drop 1).map digitsOf)) := by
      have := drop_bang (l := l) (i := 0) (by omega)
      rw [List.drop_zero] at this
      unfold edgsOf
      rw [this, List.map_cons, Lib.join_cons, ← this]
    have h5 : sumLen l = l[0]!.length + 1 + sumLen (l.drop 1) := by
      have := sumLen_drop (show 0 < l.length by omega)
      rwa [List.drop_zero] at this
    have hb := sumLen_bang (show 0 < l.length by omega)
    rw [hl, hsV]
    simp -implicitDefEqProofs (maxSteps := 600000) (disch := omega) only [roomy, List.take_length, neq_t, impB_true, impB_false, impB_self, ge_iff_le, gt_iff_lt, lt_t, lt_f, le_t, le_f, eq_t, eq_f, ne_t, ne_f, nlt_t, nlt_f, nle_t, nle_f, neq_t, neq_f, wrap_id, succ_cast, Int.toNat_natCast, ifB_true, ifB_false, Bool.and_true, Bool.true_and, Bool.and_false, Bool.false_and, Bool.or_true, Bool.true_or, Bool.or_false, Bool.false_or, Bool.not_true, Bool.not_false, bnd_some, bnd_none, Int.toNat_zero, List.length_nil]
    refine loop_use (σ := Int × Bytes) (fun s => [(5, oi s.1), (3, os s.2)]) (fun _ => []) (fun _ => []) (0, []) rfl ?_
    intro W hfW hsW
    replace hfW := fun (x1 : Int) (x2 : Bytes) => hfW (x1, x2)
    replace hsW := fun (x1 : Int) (x2 : Bytes) => hsW (x1, x2)
    simp -implicitDefEqProofs only [go_sem, List.reduceReplicate, Nat.reduceAdd, Nat.reduceSub, Nat.reduceBEq, Nat.reduceMul, Nat.reduceLT, Nat.reduceLeDiff, reduceCtorEq, Nat.reduceEqDiff, Int.reduceBEq, Int.reduceBNe, Int.reduceLT, Int.reduceLE, Int.reduceNeg, List.set_cons_zero, List.set_cons_succ, bytesOf, natsOf, E_s_FormatInt, E_s_l33Edges, hfV] at hfW
    simp -implicitDefEqProofs (maxSteps := 600000) only [go_sem, List.reduceReplicate, Nat.reduceAdd, Nat.reduceSub, Nat.reduceBEq, Nat.reduceMul, Nat.reduceLT, Nat.reduceLeDiff, reduceCtorEq, Nat.reduceEqDiff, Int.reduceBEq, Int.reduceBNe, Int.reduceLT, Int.reduceLE, Int.reduceNeg, List.set_cons_zero, List.set_cons_succ, bytesOf, natsOf, E_s_FormatInt, E_s_l33Edges, hfV, hfW] at hsW
    clear hfW hfV hsV
    have key2 : ∀ k j : Nat, ∀ y : Bytes, j + k = l[0]!.length → y.length + 20 * k ≤ 0 + 20 * l[0]!.length → W ((j : Int), y) = rS (orNone (y ++ digitsOf (l[0]!.drop j) ++ Lib.joinTail [44] ((l.drop (0 + 1)).map digitsOf))) 1 := by
      intro k
      induction k with
      | zero =>
        intro j y hj hy
        rw [hsW, List.drop_eq_nil_of_le (by omega)]
        simp -implicitDefEqProofs (maxSteps := 600000) (disch := omega) only [roomy, List.take_length, neq_t, impB_true, impB_false, impB_self, ge_iff_le, gt_iff_lt, lt_t, lt_f, le_t, le_f, eq_t, eq_f, ne_t, ne_f, nlt_t, nlt_f, nle_t, nle_f, neq_t, neq_f, wrap_id, succ_cast, Int.toNat_natCast, ifB_true, ifB_false, Bool.and_true, Bool.true_and, Bool.and_false, Bool.false_and, Bool.or_true, Bool.true_or, Bool.or_false, Bool.false_or, Bool.not_true, Bool.not_false, bnd_some, bnd_none, Int.toNat_zero]
        rw [show digitsOf [] = [] from rfl, List.append_nil]
        exact key (l.length - 1) 1 y (by omega) (by omega) (by omega)
      | succ k ih' =>
        intro j y hj hy
        have h7 := allI_bang h3 (show j < l[0]!.length by omega)
        have h8 := itoa_len h7
        rw [hsW, digitsOf_drop (by omega), ← List.append_assoc]
        simp -implicitDefEqProofs (maxSteps := 600000) (disch := omega) only [roomy, List.take_length, neq_t, impB_true, impB_false, impB_self, ge_iff_le, gt_iff_lt, lt_t, lt_f, le_t, le_f, eq_t, eq_f, ne_t, ne_f, nlt_t, nlt_f, nle_t, nle_f, neq_t, neq_f, wrap_id, succ_cast, Int.toNat_natCast, ifB_true, ifB_false, Bool.and_true, Bool.true_and, Bool.and_false, Bool.false_and, Bool.or_true, Bool.true_or, Bool.or_false, Bool.false_or, Bool.not_true, Bool.not_false, bnd_some, bnd_none, h7, Int.toNat_zero]
        exact ih' (j + 1) (y ++ Lib.itoa l[0]![j]!) (by omega) (by simp only [List.length_append]; omega)
    have e := key2 l[0]!.length 0 [] (by omega) (by simp only [List.length_nil]; omega)
    rw [List.drop_zero, List.nil_append] at e
    exact e
def E_i_ClaimWord : Ent := ⟨27, [I64], fun t => rS (claimWord t.1) 1⟩
theorem ok_i_ClaimWord (hG : GOk G) : EntOk Tryd.prog G E_i_ClaimWord := by
  refine ent hG (fn := Tryd.f27) (l := [E_i_within]) (by kernel_rfl) (by kernel_rfl) ⟨ok_i_within hG, trivial⟩ ?_
  rintro ⟨(n : Int), _⟩ r hr
  show evFn env _ 27 Tryd.f27 _ = _
  rw [evFn_run fa27 rfl]
  rw [← hr]
  clear hr
  simp -implicitDefEqProofs (maxSteps := 600000) only [go_sem, List.reduceReplicate, Nat.reduceAdd, Nat.reduceSub, Nat.reduceBEq, Nat.reduceMul, Nat.reduceLT, Nat.reduceLeDiff, reduceCtorEq, Nat.reduceEqDiff, Int.reduceBEq, Int.reduceBNe, Int.reduceLT, Int.reduceLE, Int.reduceNeg, List.set_cons_zero, List.set_cons_succ, bytesOf, natsOf, E_i_within, E_i_ClaimWord]
  by_cases h : 1 ≤ n ∧ n ≤ 6
  · have : n = 1 ∨ n = 2 ∨ n = 3 ∨ n = 4 ∨ n = 5 ∨ n = 6 := by omega
    rcases this with rfl | rfl | rfl | rfl | rfl | rfl <;> rfl
  · have hw : within n 1 6 = false := by simp only [within]; simp; omega
    rw [hw]
    simp only [claimWord]
    rw [if_neg (by omega), if_neg (by omega), if_neg (by omega), if_neg (by omega), if_neg (by omega), if_neg (by omega)]
    rfl
def E_s_ClaimWord : Ent := ⟨19, [I64], fun t => rS (claimWord t.1) 1⟩
theorem ok_s_ClaimWord (hG : GOk G) : EntOk Tryd.prog G E_s_ClaimWord := by
  refine ent hG (fn := Tryd.f19) (l := [E_s_l1In]) (by kernel_rfl) (by kernel_rfl) ⟨ok_s_l1In hG, trivial⟩ ?_
  rintro ⟨(n : Int), _⟩ r hr
  show evFn env _ 19 Tryd.f19 _ = _
  rw [evFn_run fa19 rfl]
  rw [← hr]
  clear hr
  simp -implicitDefEqProofs (maxSteps := 600000) only [go_sem, List.reduceReplicate, Nat.reduceAdd, Nat.reduceSub, Nat.reduceBEq, Nat.reduceMul, Nat.reduceLT, Nat.reduceLeDiff, reduceCtorEq, Nat.reduceEqDiff, Int.reduceBEq, Int.reduceBNe, Int.reduceLT, Int.reduceLE, Int.reduceNeg, List.set_cons_zero, List.set_cons_succ, bytesOf, natsOf, E_s_l1In, E_s_ClaimWord]
  by_cases h : 1 ≤ n ∧ n ≤ 6
  · have : n = 1 ∨ n = 2 ∨ n = 3 ∨ n = 4 ∨ n = 5 ∨ n = 6 := by omega
    rcases this with rfl | rfl | rfl | rfl | rfl | rfl <;> rfl
  · have hw : within n 1 6 = false := by simp only [within]; simp; omega
    rw [hw]
    simp only [claimWord]
    rw [if_neg (by omega), if_neg (by omega), if_neg (by omega), if_neg (by omega), if_neg (by omega), if_neg (by omega)]
    rfl
end Go.Ev
