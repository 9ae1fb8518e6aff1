/- A part of the proof: unit Claim. -/
import Derived.Test.YtgjinkacngkgdaaDoorUEdgesT
import Derived.Test.YtgjinkacngkgdaaDoorUClaimM
namespace Go.Ev
open Go.Proofs
set_option linter.unusedSimpArgs false
set_option linter.unusedVariables false
set_option maxRecDepth 20000
set_option maxHeartbeats 4000000
variable {G : World → Prop}
abbrev kC : Kd := .pair I64 (.pair I64 (.pair LI (.pair .str (.pair LI (.pair LI (.pair LLI .unit))))))
def claimT (t : kC.T) : Bytes := claimText t.1 t.2.1 t.2.2.1 t.2.2.2.1 t.2.2.2.2.1 t.2.2.2.2.2.1 t.2.2.2.2.2.2.1
def claimTOk (t : kC.T) : Bool := claimOk t.2.2.2.1 t.2.2.2.2.1 t.2.2.2.2.2.1 t.2.2.2.2.2.2.1
def E_i_FormatClaim : Ent := ⟨8, [kC], fun t => ifB (claimTOk t.1) (rS (claimT t.1) 1) none⟩
theorem ok_i_FormatClaim (hG : GOk G) : EntOk Tryd.prog G E_i_FormatClaim := by
  refine ent hG (fn := Tryd.f8) (l := [E_i_within, E_i_IsGraph, E_i_ClaimWord, E_i_FormatGraph, E_i_edgesText, E_i_numbersText, E_strings_Join]) (by kernel_rfl) (by kernel_rfl) ⟨ok_i_within hG, ⟨ok_i_IsGraph hG, ⟨ok_i_ClaimWord hG, ⟨ok_i_FormatGraph hG, ⟨ok_i_edgesText hG, ⟨ok_i_numbersText hG, ⟨ok_strings_Join hG, trivial⟩⟩⟩⟩⟩⟩⟩ ?_
  rintro ⟨⟨(kd : Int), (n : Int), (rows : List Int), (cls : Bytes), (nums : List Int), (oths : List Int), (edgs : List (List Int)), _⟩, _⟩ r hr
  show evFn env _ 8 Tryd.f8 _ = _
  rw [evFn_run fa8 rfl]
  obtain ⟨h1, hr⟩ := ifB_some hr
  rw [← hr]
  clear hr
  have h1' : claimOk cls nums oths edgs = true := h1
  obtain ⟨hc, hn, hnl, ho, hol, he, hel⟩ := claimOk_spec h1'
  clear h1'
  clear h1
  have lc := hc
  have ln := numsOf_len hn
  have lo := numsOf_len ho
  have le := edgsOf_len he
  have lg := graphText_len n rows
  simp -implicitDefEqProofs (maxSteps := 600000) only [go_sem, List.reduceReplicate, Nat.reduceAdd, Nat.reduceSub, Nat.reduceBEq, Nat.reduceMul, Nat.reduceLT, Nat.reduceLeDiff, reduceCtorEq, Nat.reduceEqDiff, Int.reduceBEq, Int.reduceBNe, Int.reduceLT, Int.reduceLE, Int.reduceNeg, List.set_cons_zero, List.set_cons_succ, bytesOf, natsOf, E_i_within, E_i_IsGraph, E_i_ClaimWord, E_i_FormatGraph, E_i_edgesText, E_i_numbersText, E_strings_Join, E_i_FormatClaim]
  unfold claimT claimText
  cases hw : within kd 1 6 with
  | false => simp only [impB_true, impB_false, impB_self, Bool.not_true, Bool.not_false, Bool.and_true, Bool.true_and, Bool.and_false, Bool.false_and, Bool.or_true, Bool.true_or, Bool.or_false, Bool.false_or, ifB_true, ifB_false, bnd_some, bnd_none]
  | true =>
    cases hg : isG n rows with
    | false => simp only [impB_true, impB_false, impB_self, Bool.not_true, Bool.not_false, Bool.and_true, Bool.true_and, Bool.and_false, Bool.false_and, Bool.or_true, Bool.true_or, Bool.or_false, Bool.false_or, ifB_true, ifB_false, bnd_some, bnd_none]
    | true =>
      have hk : kd = 1 ∨ kd = 2 ∨ kd = 3 ∨ kd = 4 ∨ kd = 5 ∨ kd = 6 := by
        simp only [within, Bool.and_eq_true, decide_eq_true_eq] at hw
        omega
      clear hw hg
      generalize graphText n rows = gt at lg ⊢
      generalize numsOf nums = nt at ln ⊢
      generalize numsOf oths = ot at lo ⊢
      generalize edgsOf edgs = et at le ⊢
      rcases hk with rfl | rfl | rfl | rfl | rfl | rfl
      all_goals
        simp -implicitDefEqProofs (maxSteps := 600000) (disch := omega) only [roomy, List.take_length, neq_t, impB_true, impB_false, impB_self, ge_iff_le, gt_iff_lt, lt_t, lt_f, le_t, le_f, eq_t, eq_f, ne_t, ne_f, nlt_t, nlt_f, nle_t, nle_f, neq_t, neq_f, wrap_id, succ_cast, Int.toNat_natCast, ifB_true, ifB_false, Bool.and_true, Bool.true_and, Bool.and_false, Bool.false_and, Bool.or_true, Bool.true_or, Bool.or_false, Bool.false_or, Bool.not_true, Bool.not_false, bnd_some, bnd_none, hn, ho, he, Int.reduceBEq, Int.reduceBNe]
        refine ifB_eq_none (nle_t ?_) ?_
        · simp only [Lib.join_cons, joinTail_cons, List.length_append, List.length_cons, List.length_nil]
          simp only [Lib.joinTail, List.map_nil, List.flatten_nil, List.length_nil, claimWord]
          simp
          omega
        · simp [rS, Lib.join_cons, Lib.joinTail, claimWord]
def E_s_FormatClaim : Ent := ⟨6, [kC], fun t => ifB (claimTOk t.1) (rS (claimT t.1) 1) none⟩
theorem ok_s_FormatClaim (hG : GOk G) : EntOk Tryd.prog G E_s_FormatClaim := by
  refine ent hG (fn := Tryd.f6) (l := [E_s_FormatGraph, E_s_ClaimWord, E_s_l33Numbers, E_s_l33Edges]) (by kernel_rfl) (by kernel_rfl) ⟨ok_s_FormatGraph hG, ⟨ok_s_ClaimWord hG, ⟨ok_s_l33Numbers hG, ⟨ok_s_l33Edges hG, trivial⟩⟩⟩⟩ ?_
  rintro ⟨⟨(kd : Int), (n : Int), (rows : List Int), (cls : Bytes), (nums : List Int), (oths : List Int), (edgs : List (List Int)), _⟩, _⟩ r hr
  show evFn env _ 6 Tryd.f6 _ = _
  rw [evFn_run fa6 rfl]
  obtain ⟨h1, hr⟩ := ifB_some hr
  rw [← hr]
  clear hr
  have h1' : claimOk cls nums oths edgs = true := h1
  obtain ⟨hc, hn, hnl, ho, hol, he, hel⟩ := claimOk_spec h1'
  clear h1'
  clear h1
  have lc := hc
  have ln := numsOf_len hn
  have lo := numsOf_len ho
  have le := edgsOf_len he
  have lg := graphText_len n rows
  simp -implicitDefEqProofs (maxSteps := 600000) only [go_sem, List.reduceReplicate, Nat.reduceAdd, Nat.reduceSub, Nat.reduceBEq, Nat.reduceMul, Nat.reduceLT, Nat.reduceLeDiff, reduceCtorEq, Nat.reduceEqDiff, Int.reduceBEq, Int.reduceBNe, Int.reduceLT, Int.reduceLE, Int.reduceNeg, List.set_cons_zero, List.set_cons_succ, bytesOf, natsOf, E_s_FormatGraph, E_s_ClaimWord, E_s_l33Numbers, E_s_l33Edges, E_s_FormatClaim, graphText_nil]
  unfold claimT claimText
  cases hw : within kd 1 6 with
  | false =>
    have hcw : claimWord kd = [] := by
      have : ¬ (1 ≤ kd ∧ kd ≤ 6) := by simpa [within] using hw
      simp only [claimWord]
      rw [if_neg (by omega), if_neg (by omega), if_neg (by omega), if_neg (by omega), if_neg (by omega), if_neg (by omega)]
    rw [hcw]
    cases isG n rows <;> rfl
  | true =>
    cases hg : isG n rows with
    | false => simp only [impB_true, impB_false, impB_self, Bool.not_true, Bool.not_false, Bool.and_true, Bool.true_and, Bool.and_false, Bool.false_and, Bool.or_true, Bool.true_or, Bool.or_false, Bool.false_or, ifB_true, ifB_false, bnd_some, bnd_none]
    | true =>
      have hk : kd = 1 ∨ kd = 2 ∨ kd = 3 ∨ kd = 4 ∨ kd = 5 ∨ kd = 6 := by
        simp only [within, Bool.and_eq_true, decide_eq_true_eq] at hw
        omega
      have hcw : (claimWord kd == []) = false := by rcases hk with rfl | rfl | rfl | rfl | rfl | rfl <;> rfl
      have hcl : (claimWord kd).length ≤ 8 := by rcases hk with rfl | rfl | rfl | rfl | rfl | rfl <;> decide
      rw [hcw]
      clear hw hg hcw
      generalize graphText n rows = gt at lg ⊢
      generalize numsOf nums = nt at ln ⊢
      generalize numsOf oths = ot at lo ⊢
      generalize edgsOf edgs = et at le ⊢
      generalize claimWord kd = cw at hcl ⊢
      rcases hk with rfl | rfl | rfl | rfl | rfl | rfl
      all_goals
        simp -implicitDefEqProofs (maxSteps := 600000) (disch := omega) only [roomy, List.take_length, neq_t, impB_true, impB_false, impB_self, ge_iff_le, gt_iff_lt, lt_t, lt_f, le_t, le_f, eq_t, eq_f, ne_t, ne_f, nlt_t, nlt_f, nle_t, nle_f, neq_t, neq_f, wrap_id, succ_cast, Int.toNat_natCast, ifB_true, ifB_false, Bool.and_true, Bool.true_and, Bool.and_false, Bool.false_and, Bool.or_true, Bool.true_or, Bool.or_false, Bool.false_or, Bool.not_true, Bool.not_false, bnd_some, bnd_none, hn, ho, he, Int.reduceBEq, Int.reduceBNe, List.length_append, List.length_cons, List.length_nil]
        simp [rS]
end Go.Ev
