/- A part of the proof: unit TextM. -/
import Derived.Test.YtgjinkacngkgdaaDoorUNum
namespace Go.Ev
open Go.Proofs
set_option linter.unusedSimpArgs false
set_option linter.unusedVariables false
set_option maxRecDepth 20000
set_option maxHeartbeats 4000000
variable {G : World → Prop}
/-! texts -/
def wNone : Bytes := [110, 111, 110, 101]
def orNone (s : Bytes) : Bytes := ifB (s == []) wNone s
def digitsOf (l : List Int) : Bytes := (l.map Lib.itoa).flatten
def numsOf (l : List Int) : Bytes := orNone (Lib.join (l.map Lib.itoa) [44])
def edgsOf (l : List (List Int)) : Bytes := orNone (Lib.join (l.map digitsOf) [44])
def allII : List (List Int) → Bool
  | [] => true
  | a :: l => allI a && allII l
def sumLen : List (List Int) → Nat
  | [] => 0
  | a :: l => a.length + 1 + sumLen l
theorem drop_bang {α : Type} [Inhabited α] {l : List α} {i : Nat} (h : i < l.length) : l.drop i = l[i]! :: l.drop (i + 1) := by
  rw [List.drop_eq_getElem_cons h, getElem!_pos l i h]
theorem allI_bang {l : List Int} (h : allI l = true) {i : Nat} (hi : i < l.length) : isI l[i]! = true := allI_get h hi
theorem allII_bang {l : List (List Int)} (h : allII l = true) {i : Nat} (hi : i < l.length) : allI l[i]! = true := by
  induction l generalizing i with
  | nil => simp at hi
  | cons a l ih =>
    simp only [allII, Bool.and_eq_true] at h
    cases i with
    | zero => exact h.1
    | succ i => simpa using ih h.2 (by simpa using hi)
theorem digs_len : ∀ (k m : Nat), m < 10 ^ k → (digs m).length ≤ k := by
  intro k
  induction k with
  | zero =>
    intro m h
    have : m = 0 := by simpa using h
    subst this
    simp [digs]
  | succ k ih =>
    intro m h
    by_cases h0 : m = 0
    · subst h0; simp [digs]
    · rw [digs_step (by omega)]
      have := ih (m / 10) (by rw [Nat.pow_succ] at h; omega)
      simp; omega
theorem itoa_len {n : Int} (h : isI n = true) : (Lib.itoa n).length ≤ 20 := by
  have h1 := isI_lo h
  have h2 := isI_hi h
  unfold Lib.itoa
  split
  · have := digs_len 19 n.natAbs (by omega)
    unfold digs at this
    rw [if_neg (by omega)] at this
    simp; omega
  · by_cases h0 : n = 0
    · subst h0; simp [Lib.decDigits]
    · have := digs_len 19 n.toNat (by omega)
      unfold digs at this
      rw [if_neg (by omega)] at this
      omega
theorem itoa_pos (n : Int) : 1 ≤ (Lib.itoa n).length := by
  unfold Lib.itoa
  split
  · simp
  · rw [Lib.decDigits]; split <;> simp
theorem digitsOf_len {l : List Int} (h : allI l = true) : (digitsOf l).length ≤ 20 * l.length := by
  induction l with
  | nil => simp [digitsOf]
  | cons n l ih =>
    simp only [allI, Bool.and_eq_true] at h
    have h1 := itoa_len h.1
    have h2 := ih h.2
    simp only [digitsOf, List.map_cons, List.flatten_cons, List.length_append, List.length_cons] at h2 ⊢
    omega
theorem digitsOf_drop {l : List Int} {i : Nat} (h : i < l.length) : digitsOf (l.drop i) = Lib.itoa l[i]! ++ digitsOf (l.drop (i + 1)) := by
  rw [drop_bang h]; simp [digitsOf]
theorem joinTail_len {sep : Bytes} {c : Nat} : ∀ {r : List Bytes}, (∀ x ∈ r, x.length ≤ c) → (Lib.joinTail sep r).length ≤ (sep.length + c) * r.length := by
  intro r
  induction r with
  | nil => intro _; simp [Lib.joinTail]
  | cons x r ih =>
    intro h
    have h1 := h x (by simp)
    have h2 := ih fun y hy => h y (by simp [hy])
    simp only [Lib.joinTail, List.map_cons, List.flatten_cons, List.length_append, List.length_cons, Nat.mul_add, Nat.mul_one] at h2 ⊢
    omega
theorem join_len {sep : Bytes} {c : Nat} {r : List Bytes} (h : ∀ x ∈ r, x.length ≤ c) : (Lib.join r sep).length ≤ (sep.length + c) * r.length := by
  cases r with
  | nil => simp [Lib.join_nil]
  | cons x r =>
    rw [Lib.join_cons]
    have h1 := h x (by simp)
    have h2 := joinTail_len (sep := sep) (r := r) fun y hy => h y (by simp [hy])
    simp only [List.length_append, List.length_cons, Nat.mul_add, Nat.mul_one]
    omega
/-- texts joined by commas, as a loop makes them -/
theorem joinTail_cons (sep x : Bytes) (r : List Bytes) : Lib.joinTail sep (x :: r) = sep ++ x ++ Lib.joinTail sep r := by simp [Lib.joinTail]
theorem sumLen_len : ∀ (l : List (List Int)), l.length ≤ sumLen l
  | [] => Nat.le_refl _
  | a :: l => by have := sumLen_len l; simp only [sumLen, List.length_cons]; omega
theorem sumLen_drop : ∀ {l : List (List Int)} {i : Nat}, i < l.length → sumLen (l.drop i) = l[i]!.length + 1 + sumLen (l.drop (i + 1)) := by
  intro l i h
  rw [drop_bang h]; rfl
theorem sumLen_le : ∀ (l : List (List Int)) (i : Nat), sumLen (l.drop i) ≤ sumLen l
  | [], i => by simp
  | a :: l, 0 => Nat.le_refl _
  | a :: l, i + 1 => by have := sumLen_le l i; simp only [List.drop_succ_cons, sumLen]; omega
theorem sumLen_bang {l : List (List Int)} {i : Nat} (h : i < l.length) : l[i]!.length + 1 ≤ sumLen l := by
  have h1 := sumLen_drop h
  have h2 := sumLen_le l i
  omega
def claimWord (n : Int) : Bytes := if n = 1 then [109, 101, 109, 98, 101, 114] else if n = 2 then [111, 117, 116, 115, 105, 100, 101] else if n = 3 then [99, 111, 108, 111, 114, 115] else if n = 4 then [99, 111, 118, 101, 114, 115] else if n = 5 then [102, 105, 108, 108] else if n = 6 then [112, 97, 99, 107, 105, 110, 103] else []
end Go.Ev
