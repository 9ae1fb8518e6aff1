/- A part of the proof: unit ClaimM. -/
import Derived.Test.YtgjinkacngkgdaaDoorUEdgesM
import Derived.Test.YtgjinkacngkgdaaDoorUTextM
namespace Go.Ev
open Go.Proofs
set_option linter.unusedSimpArgs false
set_option linter.unusedVariables false
set_option maxRecDepth 20000
set_option maxHeartbeats 4000000
variable {G : World → Prop}
theorem mapItoa_mem {l : List Int} (h : allI l = true) : ∀ x ∈ l.map Lib.itoa, x.length ≤ 20 := by
  intro x hx
  obtain ⟨n, hn, rfl⟩ := List.mem_map.1 hx
  exact itoa_len (allI_mem h n hn)
theorem orNone_len (s : Bytes) : (orNone s).length ≤ s.length + 4 := by
  unfold orNone wNone
  cases s == []
  · simp [ifB]
  · simp [ifB]
theorem numsOf_len {l : List Int} (h : allI l = true) : (numsOf l).length ≤ 21 * l.length + 4 := by
  have h1 := join_len (sep := [44]) (mapItoa_mem h)
  have h2 := orNone_len (Lib.join (l.map Lib.itoa) [44])
  simp only [List.length_map, List.length_singleton] at h1
  unfold numsOf
  omega
theorem joinTail_edges : ∀ {l : List (List Int)}, allII l = true → (Lib.joinTail [44] (l.map digitsOf)).length ≤ 21 * sumLen l
  | [], _ => by simp [Lib.joinTail]
  | a :: l, h => by
    simp only [allII, Bool.and_eq_true] at h
    have h1 := digitsOf_len h.1
    have h2 := joinTail_edges h.2
    rw [List.map_cons, joinTail_cons]
    simp only [List.length_append, List.length_singleton, sumLen]
    omega
theorem edgsOf_len {l : List (List Int)} (h : allII l = true) : (edgsOf l).length ≤ 21 * sumLen l + 4 := by
  have h2 := orNone_len (Lib.join (l.map digitsOf) [44])
  unfold edgsOf
  cases l with
  | nil => simp [Lib.join_nil] at h2 ⊢; omega
  | cons a l =>
    rw [List.map_cons, Lib.join_cons] at h2 ⊢
    simp only [allII, Bool.and_eq_true] at h
    have h1 := digitsOf_len h.1
    have h3 := joinTail_edges h.2
    simp only [List.length_append, sumLen] at h2 ⊢
    omega
theorem edgesText_len : ∀ {l : List (List Int)}, (∀ e ∈ l, ∃ a b : Nat, a < b ∧ b < 7 ∧ e = [(a : Int), (b : Int)]) → (edgesText l).length ≤ 41 * l.length
  | [], _ => by simp [edgesText]
  | e :: l, h => by
    have h1 := edgesText_len fun e he => h e (List.mem_cons_of_mem _ he)
    obtain ⟨a, b, h3, h4, h5⟩ := h e (by simp)
    have la := itoa_len (n := (a : Int)) (by simp only [isI, Bool.and_eq_true, decide_eq_true_eq]; omega)
    have lb := itoa_len (n := (b : Int)) (by simp only [isI, Bool.and_eq_true, decide_eq_true_eq]; omega)
    subst h5
    have he : (edgeText [(a : Int), (b : Int)]).length ≤ 41 := by
      show (([32] : Bytes) ++ Lib.itoa a ++ Lib.itoa b).length ≤ 41
      simp only [List.length_append, List.length_singleton]
      omega
    simp only [edgesText, List.map_cons, List.flatten_cons, List.length_append, List.length_cons] at h1 ⊢
    omega
theorem graphText_len (n : Int) (rows : List Int) : (graphText n rows).length ≤ 4000 := by
  unfold graphText
  rw [ifB_ite]
  split
  · rename_i hg
    obtain ⟨hw, hl, h7, h8⟩ := isG_spec hg
    have hL := itoa_len (n := n) (by simp only [isI, Bool.and_eq_true, decide_eq_true_eq]; omega)
    have h1 := edgesOf_len n rows
    have h2 := edgesText_len (l := edgesOf n rows) fun e he => edgesOf_mem he
    simp only [List.length_append, List.length_singleton]
    omega
  · simp
theorem graphText_nil (n : Int) (rows : List Int) : (graphText n rows == []) = !isG n rows := by
  unfold graphText
  cases isG n rows
  · rfl
  · rw [ifB_true]
    have := itoa_pos n
    cases h : Lib.itoa n with
    | nil => rw [h] at this; simp at this
    | cons a l => rfl
def claimText (kd n : Int) (rows : List Int) (cls : Bytes) (nums oths : List Int) (edgs : List (List Int)) : Bytes :=
  ifB (within kd 1 6 && isG n rows)
    (let h := claimWord kd ++ ([32] : Bytes) ++ graphText n rows
     if kd = 1 then h ++ ([32, 111, 102, 32] : Bytes) ++ cls ++ ([32, 98, 121, 32] : Bytes) ++ numsOf nums ++ ([32, 97, 110, 100, 32] : Bytes) ++ numsOf oths
     else if kd = 2 then h ++ ([32, 111, 102, 32] : Bytes) ++ cls ++ ([32, 98, 121, 32] : Bytes) ++ numsOf nums
     else if kd = 5 then h ++ ([32, 98, 121, 32] : Bytes) ++ edgsOf edgs
     else h ++ ([32, 98, 121, 32] : Bytes) ++ numsOf nums ++ ([32, 97, 110, 100, 32] : Bytes) ++ numsOf oths) []
/-- what the texts ask of a claim -/
def claimOk (cls : Bytes) (nums oths : List Int) (edgs : List (List Int)) : Bool :=
  decide (cls.length ≤ 2097152) && (allI nums && decide (nums.length ≤ 2097152) && (allI oths && decide (oths.length ≤ 2097152) && (allII edgs && decide (sumLen edgs ≤ 2097152))))
theorem claimOk_spec {cls : Bytes} {nums oths : List Int} {edgs : List (List Int)} (h : claimOk cls nums oths edgs = true) :
    cls.length ≤ 2097152 ∧ allI nums = true ∧ nums.length ≤ 2097152 ∧ allI oths = true ∧ oths.length ≤ 2097152 ∧ allII edgs = true ∧ sumLen edgs ≤ 2097152 := by
  simp only [claimOk, Bool.and_eq_true, decide_eq_true_eq] at h
  exact ⟨h.1, h.2.1.1, h.2.1.2, h.2.2.1.1, h.2.2.1.2, h.2.2.2.1, h.2.2.2.2⟩
end Go.Ev
