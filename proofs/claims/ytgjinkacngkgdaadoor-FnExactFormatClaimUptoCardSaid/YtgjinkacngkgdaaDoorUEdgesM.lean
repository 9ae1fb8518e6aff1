/- A part of the proof: unit EdgesM. -/
import Derived.Test.YtgjinkacngkgdaaDoorUGraphM
import Derived.Test.YtgjinkacngkgdaaDoorUTextM
namespace Go.Ev
open Go.Proofs
set_option linter.unusedSimpArgs false
set_option linter.unusedVariables false
set_option maxRecDepth 20000
set_option maxHeartbeats 4000000
variable {G : World → Prop}
def rowEdges (rows : List Int) (v : Nat) : Nat → Nat → List (List Int)
  | _, 0 => []
  | w, k + 1 => ifB (has rows[v]! w) [[(v : Int), (w : Int)]] [] ++ rowEdges rows v (w + 1) k
def edgesK (rows : List Int) (n : Nat) : Nat → Nat → List (List Int)
  | _, 0 => []
  | v, k + 1 => rowEdges rows v (v + 1) (n - (v + 1)) ++ edgesK rows n (v + 1) k
def edgesOf (n : Int) (rows : List Int) : List (List Int) := ifB (isG n rows) (edgesK rows rows.length 0 rows.length) []
theorem isG_spec {n : Int} {rows : List Int} (h : isG n rows = true) : within n 1 7 = true ∧ n = (rows.length : Int) ∧ rows.length ≤ 7 ∧ 1 ≤ rows.length := by
  unfold isG at h
  simp only [Bool.and_eq_true, decide_eq_true_eq] at h
  have := size7 h.1
  exact ⟨h.1, h.2.1.symm, by omega, by omega⟩
theorem rowEdges_mem {rows : List Int} {v : Nat} : ∀ {k w : Nat} {e : List Int}, e ∈ rowEdges rows v w k → ∃ u : Nat, w ≤ u ∧ u < w + k ∧ e = [(v : Int), (u : Int)] := by
  intro k
  induction k with
  | zero => intro w e h; cases h
  | succ k ih =>
    intro w e h
    rcases List.mem_append.1 h with h | h
    · rw [ifB_ite] at h
      split at h
      · simp only [List.mem_singleton] at h
        exact ⟨w, Nat.le_refl _, by omega, h⟩
      · cases h
    · obtain ⟨u, h1, h2, h3⟩ := ih h
      exact ⟨u, by omega, by omega, h3⟩
theorem edgesK_mem {rows : List Int} {n : Nat} : ∀ {k v : Nat} {e : List Int}, e ∈ edgesK rows n v k → ∃ a b : Nat, a < v + k ∧ a < b ∧ b < n ∧ e = [(a : Int), (b : Int)] := by
  intro k
  induction k with
  | zero => intro v e h; cases h
  | succ k ih =>
    intro v e h
    rcases List.mem_append.1 h with h | h
    · obtain ⟨u, h1, h2, h3⟩ := rowEdges_mem h
      exact ⟨v, u, by omega, by omega, by omega, h3⟩
    · obtain ⟨a, b, h1, h2, h3, h4⟩ := ih h
      exact ⟨a, b, by omega, h2, h3, h4⟩
theorem edgesOf_mem {n : Int} {rows : List Int} {e : List Int} (h : e ∈ edgesOf n rows) : ∃ a b : Nat, a < b ∧ b < 7 ∧ e = [(a : Int), (b : Int)] := by
  unfold edgesOf at h
  rw [ifB_ite] at h
  split at h
  · rename_i hg
    obtain ⟨a, b, h1, h2, h3, h4⟩ := edgesK_mem h
    exact ⟨a, b, h2, by have := (isG_spec hg).2.2.1; omega, h4⟩
  · cases h
theorem rowEdges_len {rows : List Int} {v : Nat} : ∀ {k w : Nat}, (rowEdges rows v w k).length ≤ k := by
  intro k
  induction k with
  | zero => intro w; exact Nat.le_refl _
  | succ k ih =>
    intro w
    have := ih (w := w + 1)
    simp only [rowEdges, List.length_append]
    cases has rows[v]! w
    · simp only [ifB_false, List.length_nil]; omega
    · simp only [ifB_true, List.length_singleton]; omega
theorem edgesK_len {rows : List Int} {n : Nat} : ∀ {k v : Nat}, (edgesK rows n v k).length ≤ n * k := by
  intro k
  induction k with
  | zero => intro v; exact Nat.le_refl _
  | succ k ih =>
    intro v
    have := ih (v := v + 1)
    have h2 := rowEdges_len (rows := rows) (v := v) (w := v + 1) (k := n - (v + 1))
    simp only [edgesK, List.length_append, Nat.mul_succ]
    omega
theorem edgesOf_len (n : Int) (rows : List Int) : (edgesOf n rows).length ≤ 49 := by
  unfold edgesOf
  rw [ifB_ite]
  split
  · rename_i hg
    have := (isG_spec hg).2.2.1
    have h2 := edgesK_len (rows := rows) (n := rows.length) (v := 0) (k := rows.length)
    have h3 : rows.length * rows.length ≤ 7 * 7 := Nat.mul_le_mul this this
    omega
  · simp
/-- one edge's text -/
def edgeText (e : List Int) : Bytes := ([32] : Bytes) ++ Lib.itoa e[0]! ++ Lib.itoa e[1]!
def edgesText (l : List (List Int)) : Bytes := (l.map edgeText).flatten
def graphText (n : Int) (rows : List Int) : Bytes := ifB (isG n rows) (Lib.itoa n ++ ([58] : Bytes) ++ edgesText (edgesOf n rows)) []
end Go.Ev
