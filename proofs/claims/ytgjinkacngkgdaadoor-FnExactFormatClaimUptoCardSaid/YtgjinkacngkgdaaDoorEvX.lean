/- Tables of callees by contracts. -/
import Derived.Test.YtgjinkacngkgdaaDoorEvV
import Derived.Test.YtgjinkacngkgdaaDoorEvS
namespace Go.Ev
set_option linter.unusedVariables false

@[reducible] def Tup : List Kd → Type
  | [] => Unit
  | k :: r => k.T × Tup r

def decs : (ks : List Kd) → List Val → Option (Tup ks)
  | [], [] => some ()
  | k :: r, u :: us => bnd (asV u.k k u.x) fun x => bnd (decs r us) fun t => some (x, t)
  | [], _ :: _ => none
  | _ :: _, [] => none

def encs : (ks : List Kd) → Tup ks → List Val
  | [], _ => []
  | k :: r, t => ⟨k, t.1⟩ :: encs r t.2

theorem asV_eq {a b : Kd} {x : a.T} {y : b.T} (h : asV a b x = some y) : (⟨a, x⟩ : Val) = ⟨b, y⟩ := by
  unfold asV at h
  split at h
  · rename_i q; subst q; simp only [castV, Option.some.injEq] at h; subst h; rfl
  · cases h

theorem decs_eq : ∀ {ks : List Kd} {us : List Val} {t : Tup ks}, decs ks us = some t → us = encs ks t
  | [], [], _, _ => rfl
  | k :: r, u :: us, t, h => by
    simp only [decs] at h
    obtain ⟨x, h1, h2⟩ := bnd_eq h
    obtain ⟨t', h3, h4⟩ := bnd_eq h2
    cases h4
    simp only [encs]
    rw [← decs_eq h3, ← asV_eq h1]
  | [], _ :: _, _, h => by cases h
  | _ :: _, [], _, h => by cases h

/-- one callee: what it takes, what it hands back -/
structure Ent where
  g : FuncId
  ks : List Kd
  V : Tup ks → Option Res

def Ent.sem (e : Ent) (us : List Val) : Option Res := bnd (decs e.ks us) e.V

def tab : List Ent → Sems
  | [], _, _ => none
  | e :: l, g, us => ifB (e.g == g) (e.sem us) (tab l g us)

def EntOk (P : Program) (G : World → Prop) (e : Ent) : Prop := ∀ t r, e.V t = some r → Con P G e.g (encs e.ks t) r

def AllOk (P : Program) (G : World → Prop) : List Ent → Prop
  | [] => True
  | e :: l => EntOk P G e ∧ AllOk P G l

theorem semsOk_tab {P : Program} {G : World → Prop} : ∀ {l : List Ent}, AllOk P G l → SemsOk P G (tab l)
  | [], _, g, us, r, h => by cases h
  | e :: l, hl, g, us, r, h => by
    simp only [tab, ifB_ite, beq_iff_eq] at h
    split at h
    · rename_i q
      subst q
      obtain ⟨t, h1, h2⟩ := bnd_eq h
      rw [decs_eq h1]
      exact hl.1 t r h2
    · exact semsOk_tab hl.2 g us r h

theorem entOk {P : Program} {env : Env} (hP : env.P = P) (hm : P.follows .mixedOrders = true) (hmd : env.md = []) {G : World → Prop} (hGs : Steady G) {e : Ent} {fn : Func} {l : List Ent} (hf : P.funcs[e.g]? = some fn) (hname : (fn.name == "runtime.NumGoroutine") = false)
    (hl : AllOk P G l) (h : ∀ t r, e.V t = some r → evFn env (tab l) e.g fn (encs e.ks t) = some r) : EntOk P G e :=
  fun t r hr => evFn_con hP hm hmd hGs (semsOk_tab hl) hf hname (h t r hr)

theorem tab_cons (e : Ent) (l : List Ent) (g : FuncId) (us : List Val) : tab (e :: l) g us = ifB (e.g == g) (e.sem us) (tab l g us) := rfl
theorem tab_nil (g : FuncId) (us : List Val) : tab [] g us = none := rfl
attribute [go_sem] tab_cons tab_nil Ent.sem decs encs asV_same
end Go.Ev
namespace Go.Ev
theorem bnd_ifB_none_left {α β : Type} (b : Bool) (y : Option α) (k : α → Option β) : bnd (ifB b none y) k = ifB b none (bnd y k) := by cases b <;> rfl
theorem bnd_ifB_none_right {α β : Type} (b : Bool) (y : Option α) (k : α → Option β) : bnd (ifB b y none) k = ifB b (bnd y k) none := by cases b <;> rfl
theorem ifB_none_eq {α : Type} {b : Bool} {y r : Option α} (h : b = false) (h2 : y = r) : ifB b none y = r := by subst h; exact h2
theorem ifB_eq_none {α : Type} {b : Bool} {y r : Option α} (h : b = true) (h2 : y = r) : ifB b y none = r := by subst h; exact h2
theorem part {α β : Type} {b : Bool} {x y : Option α} {k : α → Option β} {r : Option β} (h1 : b = true → bnd x k = r) (h2 : b = false → bnd y k = r) : bnd (ifB b x y) k = r := by
  cases b with
  | true => exact h1 rfl
  | false => exact h2 rfl
theorem part' {α : Type} {b : Bool} {x y r : Option α} (h1 : b = true → x = r) (h2 : b = false → y = r) : ifB b x y = r := by
  cases b with
  | true => exact h1 rfl
  | false => exact h2 rfl
end Go.Ev
namespace Go.Ev
/-! where the rewriting looks -/
theorem evD_congr {env : Env} {F : Sems} {ls : List (Nat × List (Nat × Nat))} {ds : List (Nat × Nat)} {c : Code} {n : Nat} {st st' : St} (h : st = st') : evD env F ls ds c n st = evD env F ls ds c n st' := by rw [h]
theorem evOps_congr {env : Env} {F : Sems} {ops r : List Oper} {st st' : St} (h : st = st') : evOps env F ops r st = evOps env F ops r st' := by rw [h]
theorem evOpsD_congr {env : Env} {F : Sems} {ops r : List Oper} {st st' : St} (h : st = st') : evOpsD env F ops r st = evOpsD env F ops r st' := by rw [h]
theorem evOp_congr {env : Env} {F : Sems} {ops : List Oper} {o : Oper} {gd : Option (Nat × Bool)} {st st' : St} (h : st = st') : evOp env F ops st o gd = evOp env F ops st' o gd := by rw [h]
theorem evOpD_congr {env : Env} {F : Sems} {ops : List Oper} {o : Oper} {gd : Option (Nat × Bool)} {st st' : St} (h : st = st') : evOpD env F ops st o gd = evOpD env F ops st' o gd := by rw [h]
theorem regD_congr {env : Env} {F : Sems} {ops : List Oper} {m m' : Option Nat} {st st' : St} (h : st = st') (hm : m = m') : regD env F ops st m = regD env F ops st' m' := by rw [h, hm]
theorem evOp1_congr {env : Env} {F : Sems} {d : Option Nat} {o : Op} {st st' : St} (h : st = st') : evOp1 env F st d o = evOp1 env F st' d o := by rw [h]
theorem loopG_congr {step : St → Option (Ex × St)} {nrm : St → St} {st st' : St} (h : st = st') : loopG step nrm st = loopG step nrm st' := by rw [h]
theorem condB_congr {f g : St → Option (Ex × St)} {st st' : St} {v v' : SV} (h : st = st') (hv : v = v') : condB f g st v = condB f g st' v' := by rw [h, hv]
theorem iterK_congr {f : St → Option (Ex × St)} {r r' : Ex × St} (h : r = r') : iterK f r = iterK f r' := by rw [h]
theorem nrmK_congr {nrm : St → St} {f : St → Option (Ex × St)} {s s' : St} (h : s = s') : nrmK nrm f s = nrmK nrm f s' := by rw [h]
attribute [congr] evD_congr evOps_congr evOpsD_congr evOp_congr evOpD_congr regD_congr evOp1_congr loopG_congr condB_congr iterK_congr nrmK_congr

/-! loops, by what changes in them -/
def asets {α : Type} : List (Nat × α) → List (Nat × α) → List (Nat × α)
  | l, [] => l
  | l, p :: r => asets (aset l p.1 p.2) r
def upd {σ : Type} (st : St) (up : σ → List (Nat × SV)) (ob : σ → List (Nat × SObj)) (bx : σ → List (Nat × (Bool × List Cell))) (s : σ) : St := ⟨st.n, asets st.t (up s), asets st.s (ob s), asets st.b (bx s)⟩

theorem loop_at {σ ρ : Type} {step : St → Option (Ex × St)} {nrm : St → St} {st : St} {K : Ex × St → Option ρ} {R : Option ρ} (up : σ → List (Nat × SV)) (ob : σ → List (Nat × SObj)) (bx : σ → List (Nat × (Bool × List Cell)))
    (P : σ → Prop) (μ : σ → Nat) (V : σ → Option ρ) (s0 : σ) (h0 : upd st up ob bx s0 = st) (hs : P s0) (hV : V s0 = R)
    (h : ∀ s, P s → ∀ rec : St → Option (Ex × St), (∀ s', P s' → μ s' < μ s → bnd (rec (upd st up ob bx s')) K = V s') → bnd (step (upd st up ob bx s)) (fun a => bnd (iterK (nrmK nrm rec) a) K) = V s) :
    bnd (loopG step nrm st) K = R := by
  rw [← hV, ← h0]
  exact loop_val (upd st up ob bx) P μ V (fun s hs rec hr => by rw [bnd_assoc]; exact h s hs rec hr) s0 hs
theorem loop_use {σ ρ : Type} {step : St → Option (Ex × St)} {nrm : St → St} {st : St} {K : Ex × St → Option ρ} {R : Option ρ} (up : σ → List (Nat × SV)) (ob : σ → List (Nat × SObj)) (bx : σ → List (Nat × (Bool × List Cell)))
    (s0 : σ) (h0 : upd st up ob bx s0 = st)
    (h : ∀ V : σ → Option ρ, (∀ s, bnd (loopG step nrm (upd st up ob bx s)) K = V s) → (∀ s, V s = bnd (step (upd st up ob bx s)) fun a => bnd (iterK (nrmK nrm (loopG step nrm)) a) K) → V s0 = R) :
    bnd (loopG step nrm st) K = R := by
  have := h (fun s => bnd (loopG step nrm (upd st up ob bx s)) K) (fun _ => rfl) (fun s => by rw [loopG_step, bnd_assoc])
  rw [← this, h0]
theorem bnd_ifB {α β : Type} (b : Bool) (x y : Option α) (k : α → Option β) : bnd (ifB b x y) k = ifB b (bnd x k) (bnd y k) := by cases b <;> rfl
theorem ifB_merge {α : Type} (a b : Bool) (x : Option α) : ifB a (ifB b x none) none = ifB (a && b) x none := by cases a <;> rfl
theorem ifB_flip {α : Type} (a : Bool) (x : α) : ifB a none (some x) = ifB (!a) (some x) none := by cases a <;> rfl
theorem getQ {α : Type} [Inhabited α] (l : List α) (i : Nat) : l[i]? = ifB (decide (i < l.length)) (some l[i]!) none := by
  by_cases h : i < l.length <;> simp [h, ifB]
abbrev oi (n : Int) : SV := .one (.val false (.int .i64) n)
abbrev ob (b : Bool) : SV := .one (.val false .bool b)
abbrev os (s : List UInt8) : SV := .one (.val false .str s)
attribute [go_sem] ifB_merge ifB_flip getK_int getK_bool getK_str getK_sl asets upd bnd_assoc bnd_ifB getQ List.replicate_zero List.replicate_succ
end Go.Ev
namespace Go.Ev
/-! what arithmetic decides -/
theorem lt_t {a b : Int} (h : a < b) : decide (a < b) = true := by simpa using h
theorem lt_f {a b : Int} (h : ¬ a < b) : decide (a < b) = false := by simpa using h
theorem le_t {a b : Int} (h : a ≤ b) : decide (a ≤ b) = true := by simpa using h
theorem le_f {a b : Int} (h : ¬ a ≤ b) : decide (a ≤ b) = false := by simpa using h
theorem eq_t {a b : Int} (h : a = b) : (a == b) = true := by simpa using h
theorem eq_f {a b : Int} (h : ¬ a = b) : (a == b) = false := by simpa using h
theorem ne_t {a b : Int} (h : ¬ a = b) : (a != b) = true := by simpa using h
theorem ne_f {a b : Int} (h : a = b) : (a != b) = false := by simpa using h
theorem nlt_t {a b : Nat} (h : a < b) : decide (a < b) = true := by simpa using h
theorem nlt_f {a b : Nat} (h : ¬ a < b) : decide (a < b) = false := by simpa using h
theorem nle_t {a b : Nat} (h : a ≤ b) : decide (a ≤ b) = true := by simpa using h
theorem nle_f {a b : Nat} (h : ¬ a ≤ b) : decide (a ≤ b) = false := by simpa using h
theorem neq_t {a b : Nat} (h : a = b) : (a == b) = true := by simpa using h
theorem neq_f {a b : Nat} (h : ¬ a = b) : (a == b) = false := by simpa using h
theorem wrap_id {n : Int} (h1 : -9223372036854775808 ≤ n) (h2 : n ≤ 9223372036854775807) : IntKind.i64.wrap n = n := by
  show (if (true && decide (n % (2 ^ 64 : Int) ≥ (2 ^ 63 : Int))) = true then n % (2 ^ 64 : Int) - (2 ^ 64 : Int) else n % (2 ^ 64 : Int)) = n
  simp only [Bool.true_and, decide_eq_true_eq]
  split <;> omega
theorem succ_cast (v : Nat) : (v : Int) + 1 = ((v + 1 : Nat) : Int) := rfl
end Go.Ev
