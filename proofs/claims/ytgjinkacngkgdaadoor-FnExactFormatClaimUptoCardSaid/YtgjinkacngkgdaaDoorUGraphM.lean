/- A part of the proof: unit GraphM. -/
import Derived.Test.YtgjinkacngkgdaaDoorUGraph
namespace Go.Ev
open Go.Proofs
set_option linter.unusedSimpArgs false
set_option linter.unusedVariables false
set_option maxRecDepth 20000
set_option maxHeartbeats 4000000
variable {G : World → Prop}
theorem and1 (s v : Int) : bitsV .and .i64 (shrV .i64 s v) 1 = 1 ∨ bitsV .and .i64 (shrV .i64 s v) 1 = 0 := by
  unfold bitsV
  generalize BitVec.ofInt IntKind.i64.bits (shrV .i64 s v) = x
  have h : (x &&& BitVec.ofInt IntKind.i64.bits 1).toNat = x.toNat % 2 := by
    rw [BitVec.toNat_and]
    exact Nat.and_two_pow_sub_one_eq_mod x.toNat 1
  simp only [h]
  rcases Nat.mod_two_eq_zero_or_one x.toNat with h | h <;> rw [h]
  · right; rfl
  · left; rfl
theorem and_zero (s v : Int) : (bitsV .and .i64 (shrV .i64 s v) 1 == 0) = !has s v := by
  unfold has
  rcases and1 s v with h | h <;> rw [h] <;> rfl
theorem has_fold (s v : Int) : (bitsV .and .i64 (shrV .i64 s v) 1 == 1) = has s v := rfl
def okIn (n : Int) (x : Int) : Bool := !(decide (x < 0) || !decide (x < 0) && decide (full n + 1 ≤ x))
def rowS2 (n : Int) (rows : List Int) (v w : Nat) : Bool := !(has rows[v]! w && (!okIn n rows[w]! || !has rows[w]! v))
def rowS (n : Int) (rows : List Int) (v : Nat) : Bool := okIn n rows[v]! && (!has rows[v]! v && allFrom (rowS2 n rows v) 0 rows.length)
theorem isG_s (n : Int) (rows : List Int) : isG n rows = (within n 1 7 && (decide ((rows.length : Int) = n) && allFrom (rowS n rows) 0 rows.length)) := by
  unfold isG
  congr 2
  rw [Bool.eq_iff_iff, Bool.and_eq_true, allFrom_iff, allFrom_iff, allFrom_iff]
  have okr : ∀ x, okIn n x = within x 0 (full n) := by
    intro x
    unfold okIn within
    by_cases h1 : x < 0 <;> by_cases h2 : full n + 1 ≤ x <;> simp [h1, h2] <;> omega
  simp only [rowS, rowOk, rowS2, symOk, Bool.and_eq_true, allFrom_iff, okr]
  constructor
  · rintro ⟨h1, h2⟩ v hv0 hv
    refine ⟨(h1 v hv0 hv).1, (h1 v hv0 hv).2, fun w hw0 hw => ?_⟩
    have h3 := (h1 w hw0 hw).1
    rw [h3]
    have hsym : has rows[v]! w = has rows[w]! v := by
      rcases Nat.lt_trichotomy v w with h | h | h
      · have := h2 w hw0 hw v (Nat.zero_le _) (by omega)
        exact (eq_of_beq this).symm
      · subst h; rfl
      · have := h2 v hv0 hv w (Nat.zero_le _) (by omega)
        exact eq_of_beq this
    rw [hsym]
    cases has rows[w]! v <;> rfl
  · intro h
    refine ⟨fun v hv0 hv => ⟨(h v hv0 hv).1, (h v hv0 hv).2.1⟩, fun v hv0 hv w hw0 hw => ?_⟩
    have h1 := (h v hv0 hv).2.2 w hw0 (by omega)
    have h2 := (h w hw0 (by omega)).2.2 v hv0 hv
    rw [(h v hv0 hv).1] at h2
    rw [(h w hw0 (by omega)).1] at h1
    revert h1 h2
    cases has rows[v]! w <;> cases has rows[w]! v <;> simp
end Go.Ev
