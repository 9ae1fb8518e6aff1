/- Entries of functions, and small things. -/
import Derived.Test.YtgjinkacngkgdaaDoorFa
import Derived.Test.YtgjinkacngkgdaaDoorShelfc
namespace Go.Ev
open Go.Proofs
set_option linter.unusedSimpArgs false
set_option linter.unusedVariables false
variable {G : World → Prop}

structure GOk (G : World → Prop) : Prop where
  steady : Steady G
  pow : ∀ w, G w → Lib.TabIs Tryd.prog w "internal/strconv.uint64pow10" .u64 Lib.pow10Tab
  maxLen : ∀ w, G w → ∃ m, w.cell? ⟨0, 0, none⟩ = some (.int .i64 m)

theorem ent (hG : GOk G) {e : Ent} {fn : Func} {l : List Ent} (hf : Tryd.prog.funcs[e.g]? = some fn) (hname : (fn.name == "runtime.NumGoroutine") = false)
    (hl : AllOk Tryd.prog G l) (h : ∀ t r, e.V t = some r → evFn env (tab l) e.g fn (encs e.ks t) = some r) : EntOk Tryd.prog G e :=
  entOk (env := env) rfl (by kernel_rfl) rfl hG.steady hf hname hl h

abbrev I64 : Kd := .int .i64
abbrev LI : Kd := .sl I64
abbrev LLI : Kd := .sl LI
abbrev LS : Kd := .sl .str
abbrev kG : Kd := .pair I64 (.pair LI .unit)
abbrev Bytes := List UInt8
@[go_sem] def rB (b : Bool) (n : Nat) : Option Res := some ⟨[(⟨.bool, b⟩, .own)], List.replicate n none⟩
@[go_sem] def rI (b : Int) (n : Nat) : Option Res := some ⟨[(⟨I64, b⟩, .own)], List.replicate n none⟩
@[go_sem] def rS (b : List UInt8) (n : Nat) : Option Res := some ⟨[(⟨.str, b⟩, .own)], List.replicate n none⟩
@[go_sem] def rL (l : List Int) (n : Nat) : Option Res := some ⟨[(⟨LI, l⟩, .own)], List.replicate n none⟩

/-- an int of the machine -/
def isI (n : Int) : Bool := decide (-9223372036854775808 ≤ n) && decide (n ≤ 9223372036854775807)
def allI : List Int → Bool
  | [] => true
  | n :: l => isI n && allI l
theorem isI_lo {n : Int} (h : isI n = true) : -9223372036854775808 ≤ n := by simp only [isI, Bool.and_eq_true, decide_eq_true_eq] at h; exact h.1
theorem isI_hi {n : Int} (h : isI n = true) : n ≤ 9223372036854775807 := by simp only [isI, Bool.and_eq_true, decide_eq_true_eq] at h; exact h.2
theorem allI_mem {l : List Int} (h : allI l = true) : ∀ n ∈ l, isI n = true := by
  induction l with
  | nil => intro n hn; cases hn
  | cons m l ih =>
    simp only [allI, Bool.and_eq_true] at h
    intro n hn
    rcases List.mem_cons.1 hn with rfl | hn
    · exact h.1
    · exact ih h.2 n hn
theorem allI_get {l : List Int} (h : allI l = true) {i : Nat} (hi : i < l.length) : isI l[i]! = true := by
  rw [getElem!_pos l i hi]
  exact allI_mem h _ (List.getElem_mem hi)

def allFrom (p : Nat → Bool) : Nat → Nat → Bool
  | _, 0 => true
  | i, k + 1 => p i && allFrom p (i + 1) k
end Go.Ev
