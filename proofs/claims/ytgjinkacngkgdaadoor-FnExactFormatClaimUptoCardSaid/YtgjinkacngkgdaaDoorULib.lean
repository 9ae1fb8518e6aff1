/- A part of the proof: unit Lib. -/
import Derived.Test.YtgjinkacngkgdaaDoorUBase
namespace Go.Ev
open Go.Proofs
set_option linter.unusedSimpArgs false
set_option linter.unusedVariables false
set_option maxRecDepth 20000
set_option maxHeartbeats 4000000
variable {G : World → Prop}
/-! contracts of the library's functions -/
theorem rep_str {T D : Nat → Prop} {w : World} {s : List UInt8} {v : Value} (h : VRep T D w ⟨.str, s⟩ v) : v = .string ⟨s.toArray⟩ := by
  rcases h with ⟨h, _⟩ | ⟨_, h⟩
  · cases h
  · simp only [Rep, List.cons.injEq, and_true] at h
    exact h
theorem rep_int {T D : Nat → Prop} {w : World} {k : IntKind} {n : Int} {v : Value} (h : VRep T D w ⟨.int k, n⟩ v) : v = .int k n := by
  rcases h with ⟨h, _⟩ | ⟨_, h⟩
  · cases h
  · simp only [Rep, List.cons.injEq, and_true] at h
    exact h

/-- a function that hands back a string and leaves what stood -/
theorem con_str {g : FuncId} {us : List Val} {s : List UInt8} (he : Enterable Tryd.prog g)
    (h : ∀ (w : World) (T D : Nat → Prop) (args : List Value), G w → (∀ b, T b → b < w.heap.size) → All2 (VRep (topB T D true) D w) us args → Calls Tryd.prog g args.toArray w fun e w' => e = .returned (.string ⟨s.toArray⟩) ∧ Shp w w' ∧ (∀ b, b < w.heap.size → Same w w' b)) :
    Con Tryd.prog G g us ⟨[(⟨.str, s⟩, .own)], List.replicate us.length none⟩ := by
  refine ⟨he, fun w T D args hG hT hD ha => (h w T D args hG hT ha).mono fun e w' ⟨h1, h2, h3⟩ => ?_⟩
  refine ⟨[.string ⟨s.toArray⟩], D, [[none]], h1, h2, h3, fun b hb => hb, fun b hb => Nat.lt_of_lt_of_le (hD b hb) h2.1, fun b hb => .inl hb, ⟨?_, trivial⟩, by simp [blks], by simp [blks]⟩
  exact .inr ⟨rfl, ⟨rfl, rfl, by simp [Rep]⟩, trivial⟩

open Go.RowKit in
theorem below_keep {w w' : World} (h : Below w.heap.size w w') : Shp w w' ∧ ∀ b, b < w.heap.size → Same w w' b := by
  refine ⟨⟨h.size, fun b arr et fz q => ⟨arr, ?_, rfl⟩, h.os, h.output, h.tape⟩, fun b hb => h.block b hb⟩
  have hb : b < w.heap.size := by
    rcases Nat.lt_or_ge b w.heap.size with h' | h'
    · exact h'
    · rw [Array.getElem?_eq_none h'] at q; cases q
  rw [h.block b hb]; exact q

theorem grow_keep (w : World) (k : Nat) (os : Array Obj) : Shp w (Go.Sort.grow (w.drewN k) os) ∧ ∀ b, b < w.heap.size → Same w (Go.Sort.grow (w.drewN k) os) b := by
  have h : ∀ b, b < w.heap.size → (Go.Sort.grow (w.drewN k) os).heap[b]? = w.heap[b]? := by
    intro b hb
    show (w.heap ++ os)[b]? = w.heap[b]?
    rw [Array.getElem?_append_left hb]
  refine ⟨⟨?_, fun b arr et fz q => ⟨arr, ?_, rfl⟩, rfl, rfl, rfl⟩, h⟩
  · show w.heap.size ≤ (w.heap ++ os).size
    rw [Array.size_append]; omega
  · have hb : b < w.heap.size := by
      rcases Nat.lt_or_ge b w.heap.size with h' | h'
      · exact h'
      · rw [Array.getElem?_eq_none h'] at q; cases q
    rw [h b hb]; exact q

def E_strconv_Itoa : Ent := ⟨56, [I64], fun t => ifB (isI t.1) (rS (Lib.itoa t.1) 1) none⟩
theorem ok_strconv_Itoa (hG : GOk G) : EntOk Tryd.prog G E_strconv_Itoa := by
  rintro ⟨n, _⟩ r hr
  obtain ⟨h1, h2⟩ := ifB_some hr
  cases h2
  refine con_str (us := [⟨I64, n⟩]) ⟨Tryd.f56, by kernel_rfl, by kernel_rfl, by kernel_rfl⟩ fun w T D args hw hT ha => ?_
  match args, ha with
  | [v], ha =>
    have := rep_int ha.1
    subst this
    refine (Tryd.strconv_Itoa n (isI_lo h1) (isI_hi h1) w (hG.pow w hw)).mono fun e w' ⟨h1, k, os, h2⟩ => ⟨h1, ?_⟩
    subst h2
    exact grow_keep w k os

/-- a slice of strings -/
theorem rep_strs {T D : Nat → Prop} {w : World} {l : List (List UInt8)} {v : Value} (h : VRep T D w ⟨LS, l⟩ v) :
    (∃ c, l.length ≤ c ∧ l = [] ∧ ∃ A, v = .slice A 0 c) ∨ (∃ b o c, l.length ≤ c ∧ v = .slice (some ⟨b, o, none⟩) l.length c ∧ b < w.heap.size ∧ ∀ (j : Nat) x, l[j]? = some x → w.cell? ⟨b, o + j, none⟩ = some (.string ⟨x.toArray⟩)) := by
  rcases h with ⟨h, _⟩ | ⟨_, h⟩
  · cases h
  · simp only [Rep, List.cons.injEq, and_true] at h
    obtain ⟨A, c, rfl, hc, h⟩ := h
    cases l with
    | nil => exact .inl ⟨c, hc, rfl, A, rfl⟩
    | cons x r =>
      obtain ⟨b, o, ecs, hA, _, hb, _⟩ := h 0 x rfl
      subst hA
      refine .inr ⟨b, o, c, hc, rfl, hb, fun j y hy => ?_⟩
      obtain ⟨b', o', ecs, hA, _, _, _, hr, hcell⟩ := h j y hy
      cases hA
      have hr : ecs = [.string ⟨y.toArray⟩] := hr
      subst hr
      have := hcell 0 _ rfl
      simpa [Kd.size] using this

def E_strings_Join : Ent := ⟨31, [LS, .str], fun t => ifB (decide (t.1.length ≤ 140737488355328) && decide ((Lib.join t.1 t.2.1).length ≤ 140737488355328)) (rS (Lib.join t.1 t.2.1) 2) none⟩
theorem ok_strings_Join (hG : GOk G) : EntOk Tryd.prog G E_strings_Join := by
  rintro ⟨l, sep, _⟩ r hr
  obtain ⟨h1, h2⟩ := ifB_some hr
  cases h2
  simp only [Bool.and_eq_true, decide_eq_true_eq] at h1
  refine con_str (us := [⟨LS, l⟩, ⟨.str, sep⟩]) ⟨Tryd.f31, by kernel_rfl, by kernel_rfl, by kernel_rfl⟩ fun w T D args hw hT ha => ?_
  match args, ha with
  | [v, s], ha =>
    have := rep_str ha.2.1
    subst this
    rcases rep_strs ha.1 with ⟨c, hc, rfl, A, rfl⟩ | ⟨b, o, c, hc, rfl, hb, hcell⟩
    · refine (Tryd.strings_Join_none A c ⟨sep.toArray⟩ w).mono fun e w' ⟨h1, h2⟩ => ⟨h1, ?_⟩
      subst h2
      exact ⟨Shp.refl _, fun b _ => rfl⟩
    · have hm : ∀ l : List (List UInt8), ((l.map fun x => (⟨x.toArray⟩ : ByteArray)).map (·.data.toList)) = l := by
        intro l
        rw [List.map_map]
        conv => rhs; rw [← List.map_id l]
        exact List.map_congr_left fun x _ => by simp
      have hj := Tryd.strings_Join b o c (l.map fun x => ⟨x.toArray⟩) ⟨sep.toArray⟩ w (fun j x hx => by
        rw [List.getElem?_map] at hx
        cases hq : l[j]? with
        | none => rw [hq] at hx; cases hx
        | some y => rw [hq] at hx; simp at hx; subst hx; exact hcell j y hq) hb (by simpa using h1.1) (by simpa using hc) (by rw [hm]; simpa using h1.2)
      rw [hm, List.length_map] at hj
      exact hj.mono fun e w' ⟨h1, h2⟩ => ⟨h1, below_keep h2⟩
end Go.Ev
