/- Regions whose order the machine draws: what operations that leave memory alone make of a state hangs only on what they look at. -/
import Derived.Test.YtgjinkacngkgdaaDoorEvQ
namespace Go.Ev
set_option linter.unusedVariables false
set_option linter.unusedSimpArgs false

theorem seal_t {st st' : St} (hs : st'.s = st.s) (hb : st'.b = st.b) : ∀ n, (∀ c, sealC st' n c = sealC st n c) ∧ (∀ f all l, sealCaps st' n f all l = sealCaps st n f all l) ∧ (∀ x, sealBox st' n x = sealBox st n x) ∧ (∀ cs, sealCs st' n cs = sealCs st n cs) := by
  intro n
  induction n with
  | zero =>
    refine ⟨fun c => ?_, fun f all l => ?_, fun x => ?_, fun cs => ?_⟩
    · cases c <;> simp [sealC, hs]
    · cases l <;> simp [sealCaps]
    · simp [sealBox]
    · cases cs <;> simp [sealCs]
  | succ n ih =>
    obtain ⟨h1, h2, h3, h4⟩ := ih
    refine ⟨fun c => ?_, fun f all l => ?_, fun x => ?_, fun cs => ?_⟩
    · cases c <;> simp [sealC, hs, hb, h2, h3]
    · cases l <;> simp [sealCaps, hb, h2, h3]
    · obtain ⟨ag, cs⟩ := x
      cases ag with
      | true => simp [sealBox, h4]
      | false =>
        match cs with
        | [] => simp [sealBox]
        | [c] => simp [sealBox, h1]
        | _ :: _ :: _ => simp [sealBox]
    · cases cs <;> simp [sealCs, h1, h4]

theorem sealSV_t {st st' : St} (hs : st'.s = st.s) (hb : st'.b = st.b) (hint : Kd) (v : SV) : sealSV st' hint v = sealSV st hint v := by
  cases v with
  | one c => simp [sealSV, (seal_t hs hb fuelS).1]
  | agg cs => simp [sealSV, (seal_t hs hb fuelS).2.2.2]
  | _ => rfl

theorem evLoad_t {st st' : St} (hs : st'.s = st.s) (hb : st'.b = st.b) (ty : TyE) (v : SV) : evLoad ty st' v = evLoad ty st v := by
  unfold evLoad
  congr 1
  cases v with
  | one c => cases c <;> simp only [evLoad1, hs, hb] <;> (rename_i k _; first | rfl | (cases k <;> rfl))
  | _ => rfl

theorem sealArgs_t {env : Env} (hmd : env.md = []) {st st' : St} (hs : st'.s = st.s) (hb : st'.b = st.b) : ∀ (args : List SV) (hs : List Kd), sealArgs st' (args.map fun _ => PMode.ro) hs args = sealArgs st (args.map fun _ => PMode.ro) hs args
  | [], _ => rfl
  | v :: vs, [] => rfl
  | v :: vs, h :: hs' => by simp only [List.map_cons, sealArgs, sealArg, sealSV_t hs hb, sealArgs_t hmd hs hb vs hs']

theorem mds_ro {env : Env} (hmd : env.md = []) {α : Type} (g : FuncId) : ∀ (args : List α), mds env g args = args.map fun _ => .ro := by
  intro args
  unfold mds
  rw [hmd]
  show padRo [] args = _
  induction args with
  | nil => rfl
  | cons x r ih => simp only [padRo, List.map_cons, ih]

/-- two states that agree on what an operation looks at -/
structure Agree (ts : List Nat) (st st' : St) : Prop where
  n : st'.n = st.n
  s : st'.s = st.s
  b : st'.b = st.b
  t : ∀ i ∈ ts, aget st'.t i = aget st.t i

theorem Agree.ev {ts : List Nat} {st st' : St} (h : Agree ts st st') (o : Operand) (ho : ∀ t, o = .tmp t → t ∈ ts) : st'.ev o = st.ev o := by
  cases o with
  | tmp t => simp only [St.ev]; rw [h.t t (ho t rfl)]
  | _ => rfl

theorem tmpsOf_mem : ∀ {l : List Operand} {t : Nat}, Operand.tmp t ∈ l → t ∈ tmpsOf l
  | x :: r, t, h => by
    rcases List.mem_cons.1 h with rfl | h
    · simp [tmpsOf]
    · have := tmpsOf_mem h
      cases x <;> simp [tmpsOf, this]

/-- what comes of a value that is put into a slot -/
def putS (st : St) (d : Option Nat) (v : SV) : St := match d with
  | some d => ⟨st.n, aset st.t d v, st.s, st.b⟩
  | none => st

theorem setT_putS {st st' : St} {v : SV} {d : Option Nat} (h : st.setT v d = some st') : st' = putS st d v ∧ ∀ st2 : St, st2.n = st.n → st2.setT v d = some (putS st2 d v) := by
  cases d with
  | none => cases h; exact ⟨rfl, fun st2 _ => rfl⟩
  | some d =>
    obtain ⟨hd, h⟩ := ifB_some h
    cases h
    refine ⟨rfl, fun st2 hn => ?_⟩
    simp only [St.setT, hn, hd, ifB_true, putS]

theorem evs_t {ts : List Nat} {st st' : St} (h : Agree ts st st') : ∀ (l : List Operand), (∀ t, Operand.tmp t ∈ l → t ∈ ts) → evs st' l = evs st l
  | [], _ => rfl
  | x :: r, hl => by
    simp only [evs]
    rw [h.ev x (fun t e => hl t (by simp [e])), evs_t h r (fun t ht => hl t (by simp [ht]))]

theorem evMaybe_t {ts : List Nat} {st st' : St} (h : Agree ts st st') (o : Option Operand) (ho : ∀ t, o = some (.tmp t) → t ∈ ts) : evMaybe st' o = evMaybe st o := by
  cases o with
  | none => rfl
  | some x => simp only [evMaybe]; rw [h.ev x (fun t e => ho t (by rw [e]))]

theorem evOpV_t {env : Env} (hmd : env.md = []) {F : Sems} {ts : List Nat} {st st' : St} (h : Agree ts st st') (op : Op) (ho : ∀ t, Operand.tmp t ∈ op.operands.toList → t ∈ ts) : evOpV env F st' op = evOpV env F st op := by
  cases op with
  | move x => simp only [evOpV]; rw [h.ev x fun t e => ho t (by simp [Op.operands, e])]
  | pick c a b =>
    simp only [evOpV]
    rw [h.ev c fun t e => ho t (by simp [Op.operands, e]), h.ev a fun t e => ho t (by simp [Op.operands, e]), h.ev b fun t e => ho t (by simp [Op.operands, e])]
  | load t x => simp only [evOpV]; rw [h.ev x fun t e => ho t (by simp [Op.operands, e]), evLoad_t h.s h.b]
  | binOp op t x y yt => simp only [evOpV]; rw [h.ev x fun t e => ho t (by simp [Op.operands, e]), h.ev y fun t e => ho t (by simp [Op.operands, e])]
  | unOp op t x => simp only [evOpV]; rw [h.ev x fun t e => ho t (by simp [Op.operands, e])]
  | fieldAddr t x f => simp only [evOpV]; rw [h.ev x fun t e => ho t (by simp [Op.operands, e])]
  | field t x f => simp only [evOpV]; rw [h.ev x fun t e => ho t (by simp [Op.operands, e])]
  | indexAddr t x i => simp only [evOpV]; rw [h.ev x fun t e => ho t (by simp [Op.operands, e]), h.ev i fun t e => ho t (by simp [Op.operands, e])]
  | index t x i => simp only [evOpV]; rw [h.ev x fun t e => ho t (by simp [Op.operands, e]), h.ev i fun t e => ho t (by simp [Op.operands, e])]
  | extract x i => simp only [evOpV]; rw [h.ev x fun t e => ho t (by simp [Op.operands, e])]
  | slice t x lo hi mx =>
    simp only [evOpV]
    rw [h.ev x fun t e => ho t (by simp [Op.operands, e]), evMaybe_t h lo fun t e => ho t (by simp [Op.operands, e]), evMaybe_t h hi fun t e => ho t (by simp [Op.operands, e]), evMaybe_t h mx fun t e => ho t (by simp [Op.operands, e])]
  | call c =>
    obtain ⟨callee, args, ats⟩ := c
    unfold evOpV
    split <;> first | rfl | skip
    all_goals (try (rename_i q; cases q))
    · rename_i _ x _
      rw [h.ev x fun t e => ho t (by simp [Op.operands, Call.operands, e])]
    · rename_i g q
      simp only [evCallS]
      rw [evs_t h args.toList fun t ht => ho t (by simp [Op.operands, Call.operands]; simpa using ht), mds_ro hmd, sealArgs_t hmd h.s h.b]
  | _ => rfl

theorem backs_no {st : St} : ∀ (args : List SV) (us : List (Option Val)), noUpd args us = true → backs (args.map fun _ => PMode.ro) args us st = some st
  | [], [], _ => rfl
  | v :: vs, none :: us, h => by
    simp only [List.map_cons, backs, back, bnd_some]
    exact backs_no vs us h
  | [], _ :: _, h => by cases h
  | _ :: _, [], h => by cases h
  | _ :: _, some _ :: _, h => by cases h

theorem pickM_none {m : PMode} (hm : m ≠ .ro) : ∀ (args : List SV), pickM m (args.map fun _ => PMode.ro) args = []
  | [] => rfl
  | v :: vs => by
    have : decide (PMode.ro = m) = false := by simpa using fun e => hm e.symm
    simp only [List.map_cons, pickM, this, ifB_false, pickM_none hm vs]

theorem flat_cells : ∀ {k : Kd} {x : k.T} {tv : Bool} {c : Cell}, k.flat = true → c ∈ explode tv k x → ∀ e l, c ≠ .val tv (.sl e) l := by
  intro k
  induction k with
  | pair a b iha ihb =>
    intro x tv c hf h
    simp only [Kd.flat, Bool.and_eq_true] at hf
    rcases List.mem_append.1 h with h | h
    · exact iha hf.1 h
    · exact ihb hf.2 h
  | unit => intro x tv c hf h; cases h
  | sl e => intro x tv c hf; cases hf
  | ptr e => intro x tv c hf; cases hf
  | clo f c => intro x tv c hf; cases hf
  | self => intro x tv c hf; cases hf
  | _ => intro x tv c hf h e l q; simp only [explode, List.mem_singleton] at h; subst h; cases q

theorem ownify_flat : ∀ {cs : List Cell} (base : Nat), (∀ c ∈ cs, ∀ tv e l, c ≠ .val tv (.sl e) l) → ownify base cs = cs ∧ ∀ st, ownObjs base cs st = st
  | [], _, _ => ⟨rfl, fun _ => rfl⟩
  | c :: cs, base, h => by
    obtain ⟨h1, h2⟩ := ownify_flat (cs := cs) (base + 1) fun c hc => h c (by simp [hc])
    cases c with
    | val tv k x =>
      cases k with
      | sl e => exact absurd rfl (h _ (by simp) tv e x)
      | _ => exact ⟨by simp only [ownify, h1], fun st => by simp only [ownObjs]; exact h2 st⟩
    | _ => exact ⟨by simp only [ownify, h1], fun st => by simp only [ownObjs]; exact h2 st⟩

theorem flat_res : ∀ {ps : List (Val × RMode)} (base : Nat), flatRes ps = true → hasTv ps = false ∧ (∀ st, resObjs base ps st = st) ∧ resComps base ps = resComps 0 ps := by
  intro ps
  suffices h : ∀ b1 b2, flatRes ps = true → hasTv ps = false ∧ (∀ st, resObjs b1 ps st = st) ∧ resComps b1 ps = resComps b2 ps from fun base => h base 0
  induction ps with
  | nil => intro b1 b2 _; exact ⟨rfl, fun _ => rfl, rfl⟩
  | cons p ps ih =>
    intro b1 b2 h
    simp only [flatRes, Bool.and_eq_true] at h
    obtain ⟨h1, h2, h3⟩ := ih (b1 + 100) (b2 + 100) h.2
    obtain ⟨u, m⟩ := p
    cases m with
    | own =>
      have hf : u.k.flat = true := h.1
      have hc : ∀ c ∈ explode false u.k u.x, ∀ tv e l, c ≠ .val tv (.sl e) l := by
        intro c hc tv e l q
        subst q
        have : ∀ {k : Kd} {x : k.T} {c : Cell}, c ∈ explode false k x → ∀ tv k' x', c = .val tv k' x' → tv = false := by
          intro k
          induction k with
          | pair a b iha ihb => intro x c h; rcases List.mem_append.1 h with h | h; exact iha h; exact ihb h
          | unit => intro x c h; cases h
          | _ => intro x c h tv k' x' q; simp only [explode, List.mem_singleton] at h; subst h; cases q; try rfl
        have ht := this hc tv _ _ rfl
        subst ht
        exact flat_cells hf hc e l rfl
      refine ⟨by simp [hasTv, ifB, h1], fun st => ?_, ?_⟩
      · simp only [resObjs, resO, (ownify_flat b1 hc).2, h2]
      · simp only [resComps, resC, (ownify_flat b1 hc).1, (ownify_flat b2 hc).1, h3]
    | deep => exact ⟨by simp [hasTv, ifB, h1], fun st => by simp only [resObjs, resO, h2], by simp only [resComps, resC, h3]⟩
    | tv => cases h.1

theorem deep_flat : ∀ (ps : List (Val × RMode)), flatRes (deepRes ps) = true ∧ (deepRes ps).length = ps.length ∧ okSizes (deepRes ps) = okSizes ps
  | [] => ⟨rfl, rfl, rfl⟩
  | p :: r => by
    obtain ⟨h1, h2, h3⟩ := deep_flat r
    refine ⟨by simp only [deepRes, flatRes, flatMode, h1, Bool.and_true], by simp [deepRes, h2], by simp only [deepRes, okSizes, h3]⟩

/-- calls whose result is taken as what nobody writes any more -/
def CallsOkD (P : Program) (env : Env) (F : Sems) (X : Cx) : Prop :=
  ∀ (I : It) (st st' : St) (a : Act) (w : World) (o : Oper) (g : FuncId) (args : Array Operand) (ts : Array TypeId) (v : SV), o.op = .call ⟨.value (.func g), args, ts⟩ → Inv X I st a w →
    evCallS env F st g (hints env ts.toList) (evs st args.toList) = some v → st.setT v o.dst = some st' → OpWp P X o a w st'

theorem evOpV_op1 {env : Env} (hmd : env.md = []) {F : Sems} {st st' : St} {v : SV} {d : Option Nat} {op : Op} (hnc : ∀ g args ts, op ≠ .call ⟨.value (.func g), args, ts⟩) (e : evOpV env F st op = some v) (hs : st.setT v d = some st') : evOp1 env F st d op = some st' := by
  have hset : ∀ x : Option SV, x = some v → bnd x (st.setV d) = some st' := fun x hx => by subst hx; exact hs
  cases op with
  | move x => simp only [evOpV, Option.some.injEq] at e; subst e; exact hs
  | pick c a b =>
    simp only [evOpV] at e
    obtain ⟨r, h1, h2⟩ := bnd_eq e
    obtain ⟨h3, h4⟩ := ifB_some h2
    cases h4
    simp only [evOp1, h1, bnd_some, h3, ifB_true]
    exact hs
  | load t x => exact hset _ e
  | binOp op t x y yt => exact hset _ e
  | unOp op t x => exact hset _ e
  | fieldAddr t x f => exact hset _ e
  | field t x f => exact hset _ e
  | indexAddr t x i => exact hset _ e
  | index t x i => exact hset _ e
  | extract x i => exact hset _ e
  | slice t x lo hi mx => exact hset _ e
  | call c =>
    unfold evOpV at e
    split at e <;> first | (cases e; done) | (rename_i q; cases q; done) | skip
    · rename_i x ts q
      cases q
      obtain ⟨t, h1, h2⟩ := bnd_eq e
      obtain ⟨n, h3, h4⟩ := bnd_eq h2
      cases h4
      simp only [evOp1, evCall, evs, evBuiltin, h1, bnd_some, h3]
      exact hs
    · rename_i g args ts q
      exact absurd q (hnc g args ts)
  | _ => cases e

theorem underV_back {R : Cell → Value → Prop} {g : Bool} (hg : g = true) {u : SV} {x : Value} (h : SVP R (underV g u) x) : SVP R u x := by
  cases u with
  | gd b c =>
    simp only [underV, ifB_ite] at h
    split at h
    · rename_i hi
      have hb := impB_elim hi hg
      exact ⟨fun _ => h, fun q => by rw [hb] at q; cases q⟩
    · exact h
  | _ => exact h

theorem Inv.ununder {X : Cx} {I : It} {st : St} {a : Act} {w : World} {g : Bool} {d : Option Nat} {v : SV} (hg : g = true) (h : Inv X I (putS (st.under g) d v) a w) : Inv X I (putS st d v) a w := by
  cases d with
  | none =>
    refine ⟨h.wld, h.n, h.nb, h.df, fun i u e => ?_, h.s, h.sd, h.b, h.bd, h.sb⟩
    refine underV_back hg (h.t i (underV g u) ?_)
    show aget (amap (underV g) st.t) i = _
    rw [aget_amap]
    have e : aget st.t i = some u := e
    rw [e]; rfl
  | some d =>
    refine ⟨h.wld, h.n, h.nb, h.df, fun i u e => ?_, h.s, h.sd, h.b, h.bd, h.sb⟩
    have e : aget (aset st.t d v) i = some u := e
    have ht : ∀ u', aget (aset (amap (underV g) st.t) d v) i = some u' → SVP (CellRel X.T I w) u' (a.tmps.getD i undef) := fun u' q => h.t i u' q
    rw [aget_aset] at e
    split at e
    · rename_i hi
      refine ht u ?_
      rw [aget_aset, if_pos hi]; exact e
    · rename_i hi
      refine underV_back hg (ht (underV g u) ?_)
      rw [aget_aset, if_neg hi, aget_amap, e]; rfl

end Go.Ev
