/- Rules for running the evaluator: a function's body; loops. -/
import Derived.Test.YtgjinkacngkgdaaDoorEvS
namespace Go.Ev
set_option linter.unusedVariables false

/-- what the evaluator asks of a function beside its code -/
structure FnFacts (fn : Func) (ls : List (Nat × List (Nat × Nat))) (ds : List (Nat × Nat)) (n : Nat) (rs : List ResultVar) (ts : List TypeId) : Prop where
  hl : losses fn = ls
  hd : draws fn = ds
  hn : fn.ntmps = n
  hr : fn.results.toList = rs
  ht : fn.resultTypes.toList = ts

theorem evFn_run {env : Env} {F : Sems} {f : FuncId} {fn : Func} {args : List Val} {c : Code} {ls : List (Nat × List (Nat × Nat))} {ds : List (Nat × Nat)} {n : Nat} {rs : List ResultVar} {ts : List TypeId}
    (fa : FnFacts fn ls ds n rs ts) (hb : fn.body = some c) :
    evFn env F f fn args = ifB (okArgs (mds env f args) args && decide (args.length ≤ 1000) && decide (n ≤ 100000))
      (bnd (evD env F ls ds c 0 (initPs 0 (mds env f args) args (st0 (args.length + (n - args.length))))) (finK env rs ts (mds env f args) args)) none := by
  obtain ⟨rfl, rfl, rfl, rfl, rfl⟩ := fa
  simp only [evFn, hb, evBody]

theorem limit_eq {α : Type} {f : Nat → Option α} (h : ∀ n a, f n = some a → f (n + 1) = some a) {n : Nat} {a : α} (hn : f n = some a) : limit f = some a := by
  have up : ∀ k m b, f m = some b → f (m + k) = some b := by
    intro k
    induction k with
    | zero => intro m b hb; exact hb
    | succ k ih => intro m b hb; exact h _ _ (ih m b hb)
  have hex : ∃ n a, f n = some a := ⟨n, a, hn⟩
  unfold limit
  rw [dif_pos hex]
  have h1 := hex.choose_spec.choose_spec
  have h2 := up n _ _ h1
  have h3 := up hex.choose _ _ hn
  rw [Nat.add_comm] at h3
  rw [h2] at h3
  exact h3

theorem limit_some {α : Type} {f : Nat → Option α} {a : α} (h : limit f = some a) : ∃ n, f n = some a := by
  unfold limit at h
  split at h
  · rename_i hex
    exact ⟨_, by rw [← h]; exact hex.choose_spec.choose_spec⟩
  · cases h

theorem iter_up (step : St → Option (Ex × St)) (nrm : St → St) : ∀ n st a, iter step nrm n st = some a → iter step nrm (n + 1) st = some a := by
  intro n
  induction n with
  | zero => intro st a h; cases h
  | succ n ih =>
    intro st a h
    simp only [iter] at h ⊢
    obtain ⟨p, h1, h2⟩ := bnd_eq h
    rw [h1]
    obtain ⟨e, s⟩ := p
    cases e with
    | normal => exact ih _ _ h2
    | exit i => exact h2
    | ret => exact h2

theorem loopG_step (step : St → Option (Ex × St)) (nrm : St → St) (st : St) : loopG step nrm st = bnd (step st) (iterK (nrmK nrm (loopG step nrm))) := by
  cases hs : step st with
  | none =>
    show limit _ = none
    unfold limit
    rw [dif_neg]
    rintro ⟨n, a, h⟩
    cases n with
    | zero => cases h
    | succ n => simp only [iter, hs, bnd_none] at h; cases h
  | some p =>
    obtain ⟨e, s⟩ := p
    rw [bnd_some]
    have other : ∀ q, iterK (nrmK nrm (loopG step nrm)) (e, s) = some q → (∀ n, iterK (nrmK nrm (iter step nrm n)) (e, s) = some q) → loopG step nrm st = some q := by
      intro q _ h
      exact limit_eq (iter_up step nrm · st) (n := 1) (by simp only [iter, hs, bnd_some]; exact h 0)
    cases e with
    | exit i => exact (other _ rfl (fun _ => rfl)).trans rfl
    | ret => exact (other _ rfl (fun _ => rfl)).trans rfl
    | normal =>
      simp only [iterK, nrmK]
      cases hl : loopG step nrm (nrm s) with
      | some a =>
        obtain ⟨n, hn⟩ := limit_some hl
        exact limit_eq (iter_up step nrm · st) (n := n + 1) (by simp only [iter, hs, bnd_some, iterK, nrmK]; exact hn)
      | none =>
        show limit _ = none
        unfold limit
        rw [dif_neg]
        rintro ⟨n, a, h⟩
        cases n with
        | zero => cases h
        | succ n =>
          simp only [iter, hs, bnd_some, iterK, nrmK] at h
          have := limit_eq (f := fun n => iter step nrm n (nrm s)) (iter_up step nrm · (nrm s)) h
          rw [show limit (fun n => iter step nrm n (nrm s)) = loopG step nrm (nrm s) from rfl, hl] at this
          cases this

theorem bnd_assoc {α β γ : Type} (x : Option α) (f : α → Option β) (g : β → Option γ) : bnd (bnd x f) g = bnd x fun a => bnd (f a) g := by cases x <;> rfl

/-- a loop, by what the whole run from a loop's head comes to -/
theorem loop_val {σ ρ : Type} {step : St → Option (Ex × St)} {nrm : St → St} {K : Ex × St → Option ρ} (mk : σ → St) (P : σ → Prop) (μ : σ → Nat) (V : σ → Option ρ)
    (h : ∀ s, P s → ∀ rec : St → Option (Ex × St), (∀ s', P s' → μ s' < μ s → bnd (rec (mk s')) K = V s') → bnd (bnd (step (mk s)) (iterK (nrmK nrm rec))) K = V s)
    (s : σ) (hs : P s) : bnd (loopG step nrm (mk s)) K = V s := by
  have key : ∀ n s, μ s = n → P s → bnd (loopG step nrm (mk s)) K = V s := by
    intro n
    induction n using Nat.strongRecOn with
    | _ n ih =>
      intro s hn hs
      rw [loopG_step]
      exact h s hs _ (fun s' hs' hlt => ih (μ s') (hn ▸ hlt) s' rfl hs')
  exact key _ s rfl hs

end Go.Ev
