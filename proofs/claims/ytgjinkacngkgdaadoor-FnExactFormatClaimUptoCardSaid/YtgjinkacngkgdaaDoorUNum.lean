/- A part of the proof: unit Num. -/
import Derived.Test.YtgjinkacngkgdaaDoorULib
namespace Go.Ev
open Go.Proofs
set_option linter.unusedSimpArgs false
set_option linter.unusedVariables false
set_option maxRecDepth 20000
set_option maxHeartbeats 4000000
variable {G : World → Prop}
def within (x lo hi : Int) : Bool := decide (lo ≤ x) && decide (x ≤ hi)
def E_i_within : Ent := ⟨25, [I64, I64, I64], fun t => rB (within t.1 t.2.1 t.2.2.1) 3⟩
theorem ok_i_within (hG : GOk G) : EntOk Tryd.prog G E_i_within := by
  refine ent hG (fn := Tryd.f25) (l := []) (by kernel_rfl) (by kernel_rfl) trivial ?_
  rintro ⟨x, lo, hi, _⟩ r hr
  show evFn env _ 25 Tryd.f25 _ = _
  rw [evFn_run fa25 rfl]
  rw [← hr]
  simp -implicitDefEqProofs (maxSteps := 600000) only [go_sem, List.reduceReplicate, Nat.reduceAdd, Nat.reduceSub, Nat.reduceBEq, Nat.reduceMul, Nat.reduceLT, Nat.reduceLeDiff, reduceCtorEq, Nat.reduceEqDiff, Int.reduceBEq, Int.reduceBNe, Int.reduceLT, Int.reduceLE, Int.reduceNeg, List.set_cons_zero, List.set_cons_succ, bytesOf, natsOf, E_i_within, within]
def E_s_l1In : Ent := ⟨43, [I64, I64, I64], fun t => rB (within t.1 t.2.1 t.2.2.1) 3⟩
theorem ok_s_l1In (hG : GOk G) : EntOk Tryd.prog G E_s_l1In := by
  refine ent hG (fn := Tryd.f43) (l := []) (by kernel_rfl) (by kernel_rfl) trivial ?_
  rintro ⟨x, lo, hi, _⟩ r hr
  show evFn env _ 43 Tryd.f43 _ = _
  rw [evFn_run fa43 rfl]
  rw [← hr]
  simp -implicitDefEqProofs (maxSteps := 600000) only [go_sem, List.reduceReplicate, Nat.reduceAdd, Nat.reduceSub, Nat.reduceBEq, Nat.reduceMul, Nat.reduceLT, Nat.reduceLeDiff, reduceCtorEq, Nat.reduceEqDiff, Int.reduceBEq, Int.reduceBNe, Int.reduceLT, Int.reduceLE, Int.reduceNeg, List.set_cons_zero, List.set_cons_succ, bytesOf, natsOf, E_s_l1In, within]
def E_i_FormatInt : Ent := ⟨45, [I64], fun t => ifB (isI t.1) (rS (Lib.itoa t.1) 1) none⟩
theorem ok_i_FormatInt (hG : GOk G) : EntOk Tryd.prog G E_i_FormatInt := by
  refine ent hG (fn := Tryd.f45) (l := [E_strconv_Itoa]) (by kernel_rfl) (by kernel_rfl) ⟨ok_strconv_Itoa hG, trivial⟩ ?_
  rintro ⟨n, _⟩ r hr
  show evFn env _ 45 Tryd.f45 _ = _
  rw [evFn_run fa45 rfl]
  rw [← hr]
  simp -implicitDefEqProofs (maxSteps := 600000) only [go_sem, List.reduceReplicate, Nat.reduceAdd, Nat.reduceSub, Nat.reduceBEq, Nat.reduceMul, Nat.reduceLT, Nat.reduceLeDiff, reduceCtorEq, Nat.reduceEqDiff, Int.reduceBEq, Int.reduceBNe, Int.reduceLT, Int.reduceLE, Int.reduceNeg, List.set_cons_zero, List.set_cons_succ, bytesOf, natsOf, E_strconv_Itoa, E_i_FormatInt]
theorem dig8 : ∀ d : Nat, d < 10 → UInt8.ofNat (IntKind.u8.wrap (IntKind.i64.wrap (48 + (d : Int)))).toNat = UInt8.ofNat (48 + d) := by decide
/-- the digits of a number, none for 0 -/
def digs (m : Nat) : Bytes := if m = 0 then [] else Lib.decDigits m
theorem digs_step {m : Nat} (h : 0 < m) : digs m = digs (m / 10) ++ [UInt8.ofNat (48 + m % 10)] := by
  unfold digs
  rw [if_neg (by omega), Lib.decDigits]
  split
  · rename_i h10
    rw [if_pos (by omega), Nat.mod_eq_of_lt h10]; rfl
  · rw [if_neg (by omega)]
def E_s_FormatInt : Ent := ⟨41, [I64], fun t => ifB (isI t.1) (rS (Lib.itoa t.1) 1) none⟩
theorem ok_s_FormatInt (hG : GOk G) : EntOk Tryd.prog G E_s_FormatInt := by
  refine ent hG (fn := Tryd.f41) (l := []) (by kernel_rfl) (by kernel_rfl) trivial ?_
  rintro ⟨(n : Int), _⟩ r hr
  show evFn env _ 41 Tryd.f41 _ = _
  rw [evFn_run fa41 rfl]
  obtain ⟨h1, hr⟩ := ifB_some hr
  rw [← hr]
  clear hr
  simp -implicitDefEqProofs (maxSteps := 600000) only [go_sem, List.reduceReplicate, Nat.reduceAdd, Nat.reduceSub, Nat.reduceBEq, Nat.reduceMul, Nat.reduceLT, Nat.reduceLeDiff, reduceCtorEq, Nat.reduceEqDiff, Int.reduceBEq, Int.reduceBNe, Int.reduceLT, Int.reduceLE, Int.reduceNeg, List.set_cons_zero, List.set_cons_succ, bytesOf, natsOf, E_s_FormatInt]
  refine part' (fun h2 => ?_) (fun h2 => ?_)
  · have : n = 0 := by simpa using h2
    subst this; simp [Lib.itoa, Lib.decDigits]
  refine loop_use (σ := Int × Bytes) (fun s => [(0, oi s.1), (3, os s.2)]) (fun _ => []) (fun _ => []) (n, []) rfl ?_
  intro V hfV hsV
  replace hfV := fun (x1 : Int) (x2 : Bytes) => hfV (x1, x2)
  replace hsV := fun (x1 : Int) (x2 : Bytes) => hsV (x1, x2)
  simp -implicitDefEqProofs only [go_sem, List.reduceReplicate, Nat.reduceAdd, Nat.reduceSub, Nat.reduceBEq, Nat.reduceMul, Nat.reduceLT, Nat.reduceLeDiff, reduceCtorEq, Nat.reduceEqDiff, Int.reduceBEq, Int.reduceBNe, Int.reduceLT, Int.reduceLE, Int.reduceNeg, List.set_cons_zero, List.set_cons_succ, bytesOf, natsOf, E_s_FormatInt] at hfV
  simp -implicitDefEqProofs (maxSteps := 600000) only [go_sem, List.reduceReplicate, Nat.reduceAdd, Nat.reduceSub, Nat.reduceBEq, Nat.reduceMul, Nat.reduceLT, Nat.reduceLeDiff, reduceCtorEq, Nat.reduceEqDiff, Int.reduceBEq, Int.reduceBNe, Int.reduceLT, Int.reduceLE, Int.reduceNeg, List.set_cons_zero, List.set_cons_succ, bytesOf, natsOf, E_s_FormatInt, hfV] at hsV
  clear hfV
  have h1' : isI n = true := h1
  have hlo := isI_lo h1'
  have hhi := isI_hi h1'
  have hn0 : n ≠ 0 := by simpa using h2
  clear h1 h1' h2
  by_cases hneg : n < 0
  · have key : ∀ k m : Nat, ∀ x : Bytes, m < 10 ^ k → (m : Int) ≤ 9223372036854775808 → x.length + k ≤ 30 → V (-(m : Int), x) = rS (45 :: (digs m ++ x)) 1 := by
      intro k
      induction k with
      | zero =>
        intro m x hm hb hx
        have : m = 0 := by simpa using hm
        subst this
        rw [hsV]
        simp -implicitDefEqProofs (maxSteps := 600000) (disch := omega) only [roomy, List.take_length, neq_t, impB_true, impB_false, impB_self, ge_iff_le, gt_iff_lt, lt_t, lt_f, le_t, le_f, eq_t, eq_f, ne_t, ne_f, nlt_t, nlt_f, nle_t, nle_f, neq_t, neq_f, wrap_id, succ_cast, Int.toNat_natCast, ifB_true, ifB_false, Bool.and_true, Bool.true_and, Bool.and_false, Bool.false_and, Bool.or_true, Bool.true_or, Bool.or_false, Bool.false_or, Bool.not_true, Bool.not_false, bnd_some, bnd_none, hneg]
        rfl
      | succ k ih =>
        intro m x hm hb hx
        by_cases h0 : m = 0
        · subst h0
          rw [hsV]
          simp -implicitDefEqProofs (maxSteps := 600000) (disch := omega) only [roomy, List.take_length, neq_t, impB_true, impB_false, impB_self, ge_iff_le, gt_iff_lt, lt_t, lt_f, le_t, le_f, eq_t, eq_f, ne_t, ne_f, nlt_t, nlt_f, nle_t, nle_f, neq_t, neq_f, wrap_id, succ_cast, Int.toNat_natCast, ifB_true, ifB_false, Bool.and_true, Bool.true_and, Bool.and_false, Bool.false_and, Bool.or_true, Bool.true_or, Bool.or_false, Bool.false_or, Bool.not_true, Bool.not_false, bnd_some, bnd_none, hneg]
          rfl
        · rw [hsV]
          have e1 : (-(m : Int)).tmod 10 = -((m % 10 : Nat) : Int) := by rw [Int.neg_tmod]; rfl
          have e2 : (-(m : Int)).tdiv 10 = -((m / 10 : Nat) : Int) := by rw [Int.neg_tdiv]; rfl
          have e3 : (0 : Int) - -((m % 10 : Nat) : Int) = ((m % 10 : Nat) : Int) := by omega
          have hk : m / 10 < 10 ^ k := by rw [Nat.pow_succ] at hm; omega
          rw [e1, e2, e3]
          have e4 := dig8 (m % 10) (by omega)
          have hr := ih (m / 10) (UInt8.ofNat (48 + m % 10) :: x) hk (by omega) (by simp; omega)
          rw [digs_step (by omega), List.append_assoc]
          clear ih hsV e1 e2 e3
          have e5 : IntKind.i64.wrap (((m % 10 : Nat)) : Int) = ((m % 10 : Nat) : Int) := wrap_id (by omega) (by omega)
          have e6 : IntKind.i64.wrap (-((m / 10 : Nat) : Int)) = -((m / 10 : Nat) : Int) := wrap_id (by omega) (by omega)
          have e7 : (-(m : Int) != 0) = true := ne_t (by omega)
          rw [e5, e4, e6, e7, ifB_true, nle_t (show 1 + List.length x ≤ 9223372036854775807 by omega), ifB_true, hr]
          by_cases hz : m % 10 = 0
          · rw [lt_f (by omega), ifB_false]
            rw [hz] at hr ⊢
            exact hr
          · rw [lt_t (by omega), ifB_true]; rfl
    have hm : n = -(n.natAbs : Int) := by omega
    have := key 20 n.natAbs [] (by omega) (by omega) (by simp)
    rw [← hm] at this
    rw [this, List.append_nil, digs, if_neg (by omega), Lib.itoa, if_pos hneg]
    rfl
  · have key : ∀ k m : Nat, ∀ x : Bytes, m < 10 ^ k → (m : Int) ≤ 9223372036854775807 → x.length + k ≤ 30 → V ((m : Int), x) = rS (digs m ++ x) 1 := by
      intro k
      induction k with
      | zero =>
        intro m x hm hb hx
        have : m = 0 := by simpa using hm
        subst this
        rw [hsV]
        simp -implicitDefEqProofs (maxSteps := 600000) (disch := omega) only [roomy, List.take_length, neq_t, impB_true, impB_false, impB_self, ge_iff_le, gt_iff_lt, lt_t, lt_f, le_t, le_f, eq_t, eq_f, ne_t, ne_f, nlt_t, nlt_f, nle_t, nle_f, neq_t, neq_f, wrap_id, succ_cast, Int.toNat_natCast, ifB_true, ifB_false, Bool.and_true, Bool.true_and, Bool.and_false, Bool.false_and, Bool.or_true, Bool.true_or, Bool.or_false, Bool.false_or, Bool.not_true, Bool.not_false, bnd_some, bnd_none, hneg]
        rfl
      | succ k ih =>
        intro m x hm hb hx
        by_cases h0 : m = 0
        · subst h0
          rw [hsV]
          simp -implicitDefEqProofs (maxSteps := 600000) (disch := omega) only [roomy, List.take_length, neq_t, impB_true, impB_false, impB_self, ge_iff_le, gt_iff_lt, lt_t, lt_f, le_t, le_f, eq_t, eq_f, ne_t, ne_f, nlt_t, nlt_f, nle_t, nle_f, neq_t, neq_f, wrap_id, succ_cast, Int.toNat_natCast, ifB_true, ifB_false, Bool.and_true, Bool.true_and, Bool.and_false, Bool.false_and, Bool.or_true, Bool.true_or, Bool.or_false, Bool.false_or, Bool.not_true, Bool.not_false, bnd_some, bnd_none, hneg]
          rfl
        · rw [hsV]
          have e1 : (m : Int).tmod 10 = ((m % 10 : Nat) : Int) := rfl
          have e2 : (m : Int).tdiv 10 = ((m / 10 : Nat) : Int) := rfl
          have hk : m / 10 < 10 ^ k := by rw [Nat.pow_succ] at hm; omega
          rw [e1, e2]
          have e4 := dig8 (m % 10) (by omega)
          have hr := ih (m / 10) (UInt8.ofNat (48 + m % 10) :: x) hk (by omega) (by simp; omega)
          rw [digs_step (by omega), List.append_assoc]
          clear ih hsV e1 e2
          have e6 : IntKind.i64.wrap ((m / 10 : Nat) : Int) = ((m / 10 : Nat) : Int) := wrap_id (by omega) (by omega)
          rw [e4, e6, ne_t (by omega), ifB_true, nle_t (show 1 + List.length x ≤ 9223372036854775807 by omega), ifB_true, hr, lt_f (by omega), ifB_false]
          rfl
    have hm : n = (n.toNat : Int) := by omega
    have := key 20 n.toNat [] (by omega) (by omega) (by simp)
    rw [← hm] at this
    rw [this, List.append_nil, digs, if_neg (by omega), Lib.itoa, if_neg hneg]
    rfl
end Go.Ev
