/- A part of the proof: unit Law1M. -/
import Derived.Test.YtgjinkacngkgdaaDoorUTextM
namespace Go.Ev
open Go.Proofs
set_option linter.unusedSimpArgs false
set_option linter.unusedVariables false
set_option maxRecDepth 20000
set_option maxHeartbeats 4000000
variable {G : World → Prop}
def szI (k : Nat) (n : Int) : Int := ifB (decide (n - k < 0)) (-1) (n - k)
def szLL : List (List Int) → Int → Int
  | [], n => n
  | a :: l, n => ifB (decide (szI a.length n < 0)) (-1) (szLL l (szI a.length n))
theorem szI_bd {k : Nat} {n : Int} (h1 : n ≤ 1048576) : -1 ≤ szI k n ∧ szI k n ≤ 1048576 := by
  unfold szI
  rw [ifB_ite]
  split
  · omega
  · rename_i h
    simp at h
    omega
theorem szLL_bd : ∀ (l : List (List Int)) {n : Int}, -1 ≤ n → n ≤ 1048576 → -1 ≤ szLL l n ∧ szLL l n ≤ 1048576
  | [], n, h1, h2 => ⟨h1, h2⟩
  | a :: l, n, h1, h2 => by
    have := szI_bd (k := a.length) h2
    simp only [szLL, ifB_ite]
    split
    · omega
    · exact szLL_bd l this.1 this.2
def allShort : List (List Int) → Bool
  | [] => true
  | a :: l => decide (a.length ≤ 2097152) && allShort l
theorem allShort_bang {l : List (List Int)} (h : allShort l = true) {i : Nat} (hi : i < l.length) : l[i]!.length ≤ 2097152 := by
  induction l generalizing i with
  | nil => simp at hi
  | cons a l ih =>
    simp only [allShort, Bool.and_eq_true, decide_eq_true_eq] at h
    cases i with
    | zero => exact h.1
    | succ i => simpa using ih h.2 (by simpa using hi)
theorem allShort_of : ∀ {l : List (List Int)}, sumLen l ≤ 2097152 → allShort l = true
  | [], _ => rfl
  | a :: l, h => by
    simp only [sumLen] at h
    simp only [allShort, Bool.and_eq_true, decide_eq_true_eq]
    exact ⟨by omega, allShort_of (by omega)⟩
def okN (n : Int) : Bool := decide (-1 ≤ n) && decide (n ≤ 1048576)
theorem okN_spec {n : Int} (h : okN n = true) : -1 ≤ n ∧ n ≤ 1048576 := by simpa [okN] using h
theorem okN_szI {k : Nat} {n : Int} (h : okN n = true) : okN (szI k n) = true := by
  have := szI_bd (k := k) (okN_spec h).2
  simp [okN]; omega
theorem okN_szLL {l : List (List Int)} {n : Int} (h : okN n = true) : okN (szLL l n) = true := by
  have := szLL_bd l (okN_spec h).1 (okN_spec h).2
  simp [okN]; omega
theorem take_set {α : Type} [Inhabited α] {l : List α} {d : α} {i : Nat} (h : i < l.length) :
    (l.take i ++ List.replicate (l.length - i) d).set i l[i]! = l.take (i + 1) ++ List.replicate (l.length - (i + 1)) d := by
  have hl : (l.take i).length = i := by rw [List.length_take]; omega
  have hr : List.replicate (l.length - i) d = d :: List.replicate (l.length - (i + 1)) d := by
    rw [show l.length - i = (l.length - (i + 1)) + 1 by omega, List.replicate_succ]
  rw [hr, List.set_append_right _ _ (by omega), hl, Nat.sub_self, List.set_cons_zero, List.take_succ_eq_append_getElem h, getElem!_pos l i h, List.append_assoc, List.singleton_append]
end Go.Ev
