/- Regions whose order the machine draws: whatever order is drawn, it comes to what the evaluator says. -/
import Derived.Test.YtgjinkacngkgdaaDoorEvW
import Derived.Orders
namespace Go.Ev
set_option linter.unusedVariables false
set_option linter.unusedSimpArgs false

variable {X : Cx} {I : It} {st st' : St} {a : Act} {w w' : World} {T : Nat → Prop} {P : Program}

theorem Agree.under {ts : List Nat} {st st' : St} (g : Bool) (h : Agree ts st st') : Agree ts (st.under g) (st'.under g) := by
  refine ⟨h.n, h.s, h.b, fun i hi => ?_⟩
  simp only [St.under, aget_amap, h.t i hi]

theorem evLift_t {env : Env} {ts : List Nat} {st st' : St} (h : Agree ts st st') (g : Bool) (op : Op) (ho : ∀ t, Operand.tmp t ∈ op.operands.toList → t ∈ ts) : evLift env st' g op = evLift env st g op := by
  cases op with
  | move x => simp only [evLift]; rw [h.ev x fun t e => ho t (by simp [Op.operands, e])]
  | pick c a b =>
    simp only [evLift]
    rw [h.ev c fun t e => ho t (by simp [Op.operands, e]), h.ev a fun t e => ho t (by simp [Op.operands, e]), h.ev b fun t e => ho t (by simp [Op.operands, e])]
  | load t x =>
    simp only [evLift]; rw [h.ev x fun t e => ho t (by simp [Op.operands, e])]
    have : liftLd g (env.ty t) st' = liftLd g (env.ty t) st := by
      funext p
      obtain ⟨gx, c⟩ := p
      cases c <;> simp only [liftLd, h.s, evLoad_t h.s h.b]
    rw [this]
  | indexAddr t x i => simp only [evLift]; rw [h.ev x fun t e => ho t (by simp [Op.operands, e]), h.ev i fun t e => ho t (by simp [Op.operands, e])]
  | index t x i => simp only [evLift]; rw [h.ev x fun t e => ho t (by simp [Op.operands, e]), h.ev i fun t e => ho t (by simp [Op.operands, e])]
  | binOp op t x y yt => simp only [evLift]; rw [h.ev x fun t e => ho t (by simp [Op.operands, e]), h.ev y fun t e => ho t (by simp [Op.operands, e])]
  | unOp op t x => simp only [evLift]; rw [h.ev x fun t e => ho t (by simp [Op.operands, e])]
  | fieldAddr t x f => simp only [evLift]; rw [h.ev x fun t e => ho t (by simp [Op.operands, e])]
  | call c =>
    obtain ⟨callee, args, ats⟩ := c
    unfold evLift
    split <;> first | rfl | skip
    all_goals (try (rename_i q; cases q))
    rename_i x _ _
    rw [h.ev x fun t e => ho t (by simp [Op.operands, Call.operands, e])]
  | _ => rfl

theorem evOpD_t {env : Env} (hmd : env.md = []) {F : Sems} {ops : List Oper} {o : Oper} {st st' : St} (h : Agree (looks ops o) st st') : evOpD env F ops st' o o.guard = evOpD env F ops st o o.guard := by
  have ho : ∀ t, Operand.tmp t ∈ o.op.operands.toList → t ∈ looks ops o := fun t ht => List.mem_append_left _ (tmpsOf_mem ht)
  cases hg : o.guard with
  | none => exact evOpV_t hmd h o.op ho
  | some p =>
    simp only [evOpD]
    cases hd : dstAt ops p.1 with
    | none => rfl
    | some d =>
      have hdl : d ∈ looks ops o := by simp [looks, hg, hd]
      simp only [evGD]
      rw [h.ev (.tmp d) fun t e => by cases e; exact hdl]
      congr 1
      funext g
      rw [evLift_t h g o.op ho]
      cases evLift env st g o.op with
      | some r => rfl
      | none =>
        simp only [evGV]
        rw [evOpV_t hmd (h.under g) o.op ho]

theorem OpWp.mono {o : Oper} {st st' : St} (h : OpWp P X o a w st) (k : ∀ a' w' I', Inv X I' st a' w' → Inv X I' st' a' w') : OpWp P X o a w st' :=
  fun next Q hn => h next Q fun a' w' I' hi => hn a' w' I' (k a' w' I' hi)

theorem putS_eq {st st' : St} {v : SV} {d : Option Nat} (h : st.setT v d = some st') : st' = putS st d v := (setT_putS h).1

/-- an operation whose value is taken alone -/
theorem evOpV_ok {env : Env} (hP : env.P = P) (hmd : env.md = []) {F : Sems} (hF : CallsOk P env F X) (hFD : CallsOkD P env F X) {o : Oper} {v : SV} (h : Inv X I st a w) (e : evOpV env F st o.op = some v) (hs : st.setT v o.dst = some st') : OpWp P X o a w st' := by
  by_cases hc : ∃ g args ts, o.op = .call ⟨.value (.func g), args, ts⟩
  · obtain ⟨g, args, ts, hop⟩ := hc
    rw [hop] at e
    exact hFD I st st' a w o g args ts v hop h e hs
  · exact evOp1_ok hP hF h (evOpV_op1 hmd (fun g args ts q => hc ⟨g, args, ts, q⟩) e hs)

/-- one of the operations that commute -/
theorem evOpD_ok {env : Env} (hP : env.P = P) (hmd : env.md = []) {F : Sems} (hF : CallsOk P env F X) (hFD : CallsOkD P env F X) {ops : Array Oper} {o : Oper} {v : SV} (h : Inv X I st a w) (e : evOpD env F ops.toList st o o.guard = some v) (hs : st.setT v o.dst = some st') :
    (Region.wanted o (yielded ops a.tmps) = true → OpWp P X o a w st') ∧ (Region.wanted o (yielded ops a.tmps) = false → ∃ I', Inv X I' st' (a.put o.dst undef) w) := by
  cases hg : o.guard with
  | none =>
    rw [hg] at e
    refine ⟨fun _ => evOpV_ok hP hmd hF hFD h e hs, fun hw => ?_⟩
    simp [Region.wanted, hg] at hw
  | some p =>
    rw [hg] at e
    simp only [evOpD] at e
    unfold evGD at e
    split at e
    · rename_i d hd
      obtain ⟨g, hgc, e1⟩ := bnd_eq e
      have hd' := hd
      rw [dstAt_eq] at hd'
      have hwg := gcond_ok (ops := ops) (o := o) (j := p.1) (want := p.2) hg (by simpa using hd') h hgc
      cases hl : evLift env st g o.op with
      | some r =>
        rw [hl] at e1
        obtain ⟨c, hc, e2⟩ := bnd_eq e1
        cases e2
        refine evOp_ok hP hF h ?_
        rw [hg]
        simp only [evOp, evG, hd, hgc, bnd_some, hl, evGuard, hc]
        exact hs
      | none =>
        rw [hl] at e1
        simp only [evGV] at e1
        cases hgv : g with
        | false =>
          rw [hgv] at e1 hl hgc
          cases e1
          refine evOp_ok hP hF h ?_
          rw [hg]
          simp only [evOp, evG, hd, hgc, bnd_some, hl, evGuard, ifB_false]
          exact hs
        | true =>
          rw [hgv] at e1 hwg
          simp only [ifB_true] at e1
          have hs2 := (setT_putS hs).2 (st.under true) rfl
          rw [putS_eq hs]
          exact ⟨fun _ => (evOpV_ok hP hmd hF hFD (h.under rfl) e1 hs2).mono fun a' w' I' hi => hi.ununder rfl, fun hw => by rw [hwg] at hw; cases hw⟩
    · cases e

/-! the values of the first operations -/
theorem evOpsD_vals {env : Env} {F : Sems} {ops : List Oper} : ∀ (os : List Oper) {st st1 : St}, evOpsD env F ops os st = some st1 →
    ∃ (v : Nat → SV) (s : Nat → St), s 0 = st ∧ s os.length = st1 ∧ ∀ i o, os[i]? = some o → evOpD env F ops (s i) o o.guard = some (v i) ∧ (s i).setT (v i) o.dst = some (s (i + 1))
  | [], st, st1, e => by cases e; exact ⟨fun _ => .bad, fun _ => st, rfl, rfl, fun i o h => by simp at h⟩
  | o :: r, st, st1, e => by
    obtain ⟨v0, e1, e2⟩ := bnd_eq e
    obtain ⟨s1, e3, e4⟩ := bnd_eq e2
    obtain ⟨v, s, h0, h1, h2⟩ := evOpsD_vals r e4
    refine ⟨fun i => match i with | 0 => v0 | i + 1 => v i, fun i => match i with | 0 => st | i + 1 => s i, rfl, h1, fun i o' ho => ?_⟩
    cases i with
    | zero =>
      simp only [List.getElem?_cons_zero, Option.some.injEq] at ho
      subst ho
      exact ⟨e1, by show st.setT v0 o.dst = some (s 0); rw [h0]; exact e3⟩
    | succ i =>
      simp only [List.getElem?_cons_succ] at ho
      exact h2 i o' ho

/-- the state in which the values of the operations of S stand in their slots -/
structure Look (ops : List Oper) (m : Nat) (v : Nat → SV) (st0 : St) (S : Nat → Prop) (st : St) : Prop where
  n : st.n = st0.n
  s : st.s = st0.s
  b : st.b = st0.b
  on : ∀ k t, k < m → S k → dstAt ops k = some t → aget st.t t = some (v k)
  off : ∀ t, (∀ k, k < m → S k → dstAt ops k ≠ some t) → aget st.t t = aget st0.t t

theorem Look.put {ops : List Oper} {m : Nat} {v : Nat → SV} {st0 st : St} {S S' : Nat → Prop} (h : Look ops m v st0 S st) {i : Nat} (hi : i < m) (hS : ∀ k, S' k ↔ S k ∨ k = i)
    (hd : ∀ k, k < m → k ≠ i → ∀ t, dstAt ops i = some t → dstAt ops k ≠ some t) : Look ops m v st0 S' (putS st (dstAt ops i) (v i)) := by
  cases hdi : dstAt ops i with
  | none =>
    refine ⟨h.n, h.s, h.b, fun k t hk hs ht => ?_, fun t ht => ?_⟩
    · rcases (hS k).1 hs with hs | rfl
      · exact h.on k t hk hs ht
      · rw [hdi] at ht; cases ht
    · exact h.off t fun k hk hs => ht k hk ((hS k).2 (.inl hs))
  | some d =>
    refine ⟨h.n, h.s, h.b, fun k t hk hs ht => ?_, fun t ht => ?_⟩
    · show aget (aset st.t d (v i)) t = _
      rw [aget_aset]
      by_cases hki : k = i
      · subst hki
        rw [hdi] at ht; cases ht
        rw [if_pos rfl]
      · rw [if_neg fun q => hd k hk hki d hdi (by rw [q]; exact ht)]
        exact h.on k t hk (((hS k).1 hs).resolve_right hki) ht
    · show aget (aset st.t d (v i)) t = _
      rw [aget_aset, if_neg fun q => ht i hi ((hS i).2 (.inr rfl)) (by rw [hdi, q])]
      exact h.off t fun k hk hs => ht k hk ((hS k).2 (.inl hs))

theorem Look.congr {ops : List Oper} {m : Nat} {v : Nat → SV} {st0 st st' : St} {S S' : Nat → Prop} (h : Look ops m v st0 S st) (h' : Look ops m v st0 S' st') (hS : ∀ k, k < m → (S k ↔ S' k)) : Agree [] st st' ∧ ∀ t, aget st'.t t = aget st.t t := by
  refine ⟨⟨by rw [h.n, h'.n], by rw [h.s, h'.s], by rw [h.b, h'.b], fun i hi => by cases hi⟩, fun t => ?_⟩
  by_cases hx : ∃ k, k < m ∧ S k ∧ dstAt ops k = some t
  · obtain ⟨k, hk, hs, ht⟩ := hx
    rw [h.on k t hk hs ht, h'.on k t hk ((hS k hk).1 hs) ht]
  · rw [h.off t fun k hk hs ht => hx ⟨k, hk, hs, ht⟩, h'.off t fun k hk hs ht => hx ⟨k, hk, (hS k hk).2 hs, ht⟩]

/-! predecessors -/
theorem predsL_ext : ∀ (os : List Oper) (acc : List (List Nat)), ∃ ext, predsL acc os = acc ++ ext ∧ ext.length = os.length
  | [], acc => ⟨[], by simp [predsL], rfl⟩
  | o :: r, acc => by
    obtain ⟨ext, h1, h2⟩ := predsL_ext r (acc ++ [predsOf acc o])
    exact ⟨predsOf acc o :: ext, by simp only [predsL, h1, List.append_assoc, List.singleton_append], by simp [h2]⟩

theorem predsL_get : ∀ (os : List Oper) (acc : List (List Nat)) (i : Nat) (o : Oper), os[i]? = some o →
    ∃ pr, (predsL acc os)[acc.length + i]? = some pr ∧ ∀ k ∈ pr, k ∈ onList o ∨ ∃ j ∈ onList o, ∃ q, (predsL acc os)[j]? = some q ∧ k ∈ q
  | [], acc, i, o, h => by simp at h
  | o :: r, acc, 0, o', h => by
    simp only [List.getElem?_cons_zero, Option.some.injEq] at h
    subst h
    obtain ⟨ext, h1, h2⟩ := predsL_ext r (acc ++ [predsOf acc o])
    have e : predsL acc (o :: r) = acc ++ (predsOf acc o :: ext) := by simp only [predsL, h1, List.append_assoc, List.singleton_append]
    refine ⟨predsOf acc o, by rw [e]; simp, fun k hk => ?_⟩
    unfold predsOf at hk
    rcases List.mem_append.1 hk with hk | hk
    · exact .inl hk
    · obtain ⟨j, hj, hk⟩ := List.mem_flatMap.1 hk
      refine .inr ⟨j, hj, ?_⟩
      cases hq : acc[j]? with
      | none => rw [hq] at hk; cases hk
      | some q =>
        rw [hq] at hk
        refine ⟨q, ?_, hk⟩
        rw [e, List.getElem?_append_left (List.getElem?_eq_some_iff.1 hq).1]
        exact hq
  | o :: r, acc, i + 1, o', h => by
    simp only [List.getElem?_cons_succ] at h
    obtain ⟨pr, h1, h2⟩ := predsL_get r (acc ++ [predsOf acc o]) i o' h
    refine ⟨pr, ?_, h2⟩
    have : acc.length + (i + 1) = (acc ++ [predsOf acc o]).length + i := by simp; omega
    rw [this]
    exact h1

theorem drawAll_get {all : List Oper} {m : Nat} : ∀ (os : List Oper) (i : Nat) (prs : List (List Nat)), drawAll all m i os prs = true → ∀ j o, os[j]? = some o → ∃ pr, prs[j]? = some pr ∧ drawOp all m (i + j) o pr = true
  | [], _, _, _, j, o, h => by simp at h
  | o :: r, i, [], e, _, _, _ => by cases e
  | o :: r, i, pr :: prs, e, j, o', h => by
    simp only [drawAll, Bool.and_eq_true] at e
    cases j with
    | zero =>
      simp only [List.getElem?_cons_zero, Option.some.injEq] at h
      subst h
      exact ⟨pr, rfl, e.1⟩
    | succ j =>
      obtain ⟨p, h1, h2⟩ := drawAll_get r (i + 1) prs e.2 j o' (by simpa using h)
      exact ⟨p, by simpa using h1, by rw [show i + (j + 1) = i + 1 + j by omega]; exact h2⟩

theorem simples_le : ∀ (os : List Oper), simples os ≤ os.length
  | [] => Nat.le_refl _
  | o :: r => by
    have := simples_le r
    simp only [simples, List.length_cons]
    split <;> omega

/-- what the check says -/
structure DrawSpec (ops : List Oper) (m : Nat) : Prop where
  le : m ≤ ops.length
  edge : ∀ i o, ops[i]? = some o → ∀ e ∈ o.after, Region.binds .any e = true ∧ e.on < i
  clo : ∀ i o, ops[i]? = some o → ∀ S : Nat → Prop, (∀ j o', S j → ops[j]? = some o' → ∀ e ∈ o'.after, S e.on) → (∀ e ∈ o.after, S e.on) →
    (i < m → (∀ t ∈ looks ops o, ∀ k, k < m → k ≠ i → dstAt ops k = some t → k < i ∧ S k)) ∧ (m ≤ i → ∀ j, j < i → S j)
  dst : ∀ i, i < m → ∀ k, k < m → k ≠ i → ∀ t, dstAt ops i = some t → dstAt ops k ≠ some t

theorem drawM_spec {ops : List Oper} {m : Nat} (h : drawM ops = some m) : DrawSpec ops m := by
  unfold drawM at h
  split at h
  · rename_i hall
    cases h
    have hg := drawAll_get ops 0 (predsL [] ops) hall
    simp only [Nat.zero_add] at hg
    have edge : ∀ i o, ops[i]? = some o → ∀ e ∈ o.after, Region.binds .any e = true ∧ e.on < i := by
      intro i o ho e he
      obtain ⟨pr, h1, h2⟩ := hg i o ho
      simp only [drawOp, Bool.and_eq_true, plainEdges, onList, List.all_eq_true, List.mem_map, forall_exists_index, and_imp, forall_apply_eq_imp_iff₂, decide_eq_true_eq] at h2
      refine ⟨?_, h2.1.2 e (by simpa using he)⟩
      have := h2.1.1 e (by simpa using he)
      unfold Region.binds
      split at this <;> simp_all
    have clos : ∀ (S : Nat → Prop), (∀ j o', S j → ops[j]? = some o' → ∀ e ∈ o'.after, S e.on) → ∀ n i, i < n → ∀ o, ops[i]? = some o → (∀ e ∈ o.after, S e.on) → ∀ pr, (predsL [] ops)[i]? = some pr → ∀ k ∈ pr, S k ∧ k < i := by
      intro S hS n
      induction n with
      | zero => intro i hi; omega
      | succ n ih =>
        intro i hi o ho hr pr hpr k hk
        obtain ⟨pr', h1, h2⟩ := predsL_get ops [] i o ho
        simp only [List.length_nil, Nat.zero_add] at h1
        rw [hpr] at h1; cases h1
        have hon : ∀ j ∈ onList o, S j ∧ j < i := by
          intro j hj
          simp only [onList, List.mem_map] at hj
          obtain ⟨e, he, rfl⟩ := hj
          have he' : e ∈ o.after := by simpa using he
          exact ⟨hr e he', (edge i o ho e he').2⟩
        rcases h2 k hk with hk | ⟨j, hj, q, hq, hkq⟩
        · exact hon k hk
        · obtain ⟨hsj, hji⟩ := hon j hj
          have hlen : j < ops.length := Nat.lt_trans hji (List.getElem?_eq_some_iff.1 ho).1
          have := ih j (by omega) ops[j] (List.getElem?_eq_getElem hlen) (hS j _ hsj (List.getElem?_eq_getElem hlen)) q hq k hkq
          exact ⟨this.1, by omega⟩
    refine ⟨simples_le ops, edge, ?_, ?_⟩
    · intro i o ho S hS hr
      obtain ⟨pr, h1, h2⟩ := hg i o ho
      have hpr := clos S hS (i + 1) i (by omega) o ho hr pr h1
      simp only [drawOp, Bool.and_eq_true] at h2
      have h3 := h2.2
      refine ⟨fun him t ht k hk hki hdk => ?_, fun him j hj => ?_⟩
      · rw [if_pos him] at h3
        simp only [Bool.and_eq_true, List.all_eq_true, List.mem_range, Bool.or_eq_true, beq_iff_eq, Bool.not_eq_true', List.contains_iff_mem] at h3
        rcases h3.1 t ht k hk with (h4 | h4) | h4
        · exact absurd h4 hki
        · rw [hdk] at h4; simp at h4
        · exact ⟨(hpr k h4).2, (hpr k h4).1⟩
      · rw [if_neg (by omega)] at h3
        simp only [List.all_eq_true, List.mem_range, List.contains_iff_mem] at h3
        exact (hpr j (h3 j hj)).1
    · intro i hi k hk hki t hdi hdk
      have hlen : i < ops.length := Nat.lt_of_lt_of_le hi (simples_le ops)
      obtain ⟨pr, h1, h2⟩ := hg i ops[i] (List.getElem?_eq_getElem hlen)
      simp only [drawOp, Bool.and_eq_true] at h2
      have h3 := h2.2
      rw [if_pos hi] at h3
      simp only [Bool.and_eq_true, List.all_eq_true, List.mem_range, Bool.or_eq_true, beq_iff_eq, Bool.not_eq_true'] at h3
      have hdo : ops[i].dst = some t := by
        rw [← hdi, dstAt_eq, List.getElem?_eq_getElem hlen]; rfl
      rcases h3.2 k hk with (h4 | h4) | h4
      · exact hki h4
      · rw [hdo] at h4; cases h4
      · rw [hdk, hdo] at h4; simp at h4
  · cases h

theorem count_false {l : Array Bool} (h : l.toList.count false = 0) (j : Nat) (hj : j < l.size) : l.getD j false = true := by
  have hm := List.count_eq_zero.1 h
  rw [Array.getD_eq_getD_getElem?, Array.getElem?_eq_getElem hj]
  show l[j] = true
  cases hq : l[j] with
  | true => rfl
  | false =>
    exfalso
    apply hm
    rw [← hq]
    exact Array.getElem_mem_toList hj

theorem count_set {l : Array Bool} {i fuel : Nat} (h : l.toList.count false = fuel + 1) (hi : l.getD i true = false) : (l.setIfInBounds i true).toList.count false = fuel := by
  have hlt : i < l.size := by
    rcases Nat.lt_or_ge i l.size with h' | h'
    · exact h'
    · simp [Array.getElem?_eq_none h'] at hi
  have hv : l[i] = false := by
    rw [Array.getD_eq_getD_getElem?, Array.getElem?_eq_getElem hlt] at hi
    exact hi
  rw [Array.toList_setIfInBounds, List.count_set (by simpa using hlt)]
  simp [hv, h]

/-- a region whose order is drawn -/
theorem regD_ok {env : Env} (hP : env.P = P) (hm : P.follows .mixedOrders = true) (hmd : env.md = []) {F : Sems} (hF : CallsOk P env F X) (hFD : CallsOkD P env F X) {id : Nat} {ops : Array Oper} {m : Nat} (hd : drawM ops.toList = some m) {Q : Exit → Act → World → Prop}
    (h : Inv X I st a w) (e : regD env F ops.toList st (some m) = some st') (hq : ∀ a' w' I', Inv X I' st' a' w' → Q .normal a' w') : (Code.region id ops true).wp P Q a w := by
  obtain ⟨st1, e1, e2⟩ := bnd_eq e
  have sp := drawM_spec hd
  have hn : ops.toList.length = ops.size := by simp
  obtain ⟨v, s, hs0, hsm, hsv⟩ := evOpsD_vals _ e1
  have hlen : (ops.toList.take m).length = m := by rw [List.length_take]; have := sp.le; omega
  rw [hlen] at hsm
  have hsv' : ∀ i o, i < m → ops[i]? = some o → evOpD env F ops.toList (s i) o o.guard = some (v i) ∧ (s i).setT (v i) o.dst = some (s (i + 1)) := by
    intro i o hi ho
    refine hsv i o ?_
    rw [List.getElem?_take, if_pos hi]
    simpa using ho
  have hdst : ∀ i o, ops[i]? = some o → dstAt ops.toList i = o.dst := by
    intro i o ho
    rw [dstAt_eq]
    have : ops.toList[i]? = some o := by simpa using ho
    rw [this]; rfl
  have hLs : ∀ i, i ≤ m → Look ops.toList m v st (fun k => k < i) (s i) := by
    intro i
    induction i with
    | zero => intro _; rw [hs0]; exact ⟨rfl, rfl, rfl, fun k t _ hk => absurd hk (by omega), fun _ _ => rfl⟩
    | succ i ih =>
      intro hi
      have hlt : i < ops.size := by have := sp.le; omega
      have ho := Array.getElem?_eq_getElem hlt
      have := putS_eq (hsv' i _ (by omega) ho).2
      rw [this, ← hdst i _ ho]
      exact (ih (by omega)).put (by omega) (fun k => by omega) (sp.dst i (by omega))
  refine wp_region_any hm ?_
  have key : ∀ (fuel : Nat) (listed : Array Bool) (a : Act) (w : World), listed.size = ops.size → listed.toList.count false = fuel →
      (∀ j o', listed.getD j false = true → ops.toList[j]? = some o' → ∀ e ∈ o'.after, listed.getD e.on false = true) →
      ((∃ I s1, Look ops.toList m v st (fun k => listed.getD k false = true) s1 ∧ Inv X I s1 a w ∧ ∀ k, listed.getD k false = true → k < m) ∨
       (∃ I s1 k, m ≤ k ∧ (∀ j, listed.getD j false = true ↔ j < k) ∧ evOps env F ops.toList (ops.toList.drop k) s1 = some st' ∧ Inv X I s1 a w)) →
      wpAny P .any ops Q fuel listed a w := by
    intro fuel
    induction fuel with
    | zero =>
      intro listed a w hsz hc hcl hph
      have hall : ∀ j, j < ops.size → listed.getD j false = true := fun j hj => count_false hc j (by omega)
      have hnil : Region.ready .any ops listed = [] := by
        rw [List.eq_nil_iff_forall_not_mem]
        intro i hi
        obtain ⟨h0, o, ho, _⟩ := mem_ready.1 hi
        have := hall i (Array.getElem?_eq_some_iff.1 ho).1
        have hlt : i < listed.size := by have := (Array.getElem?_eq_some_iff.1 ho).1; omega
        rw [Array.getD_eq_getD_getElem?, Array.getElem?_eq_getElem hlt] at h0 this
        simp at h0 this
        rw [h0] at this; cases this
      refine ⟨hnil, ?_⟩
      rcases hph with ⟨I1, s1, hL, hi, hk⟩ | ⟨I1, s1, k, hk, hkj, he, hi⟩
      · have hmn : m = ops.size := by
          have := sp.le
          rcases Nat.lt_or_ge m ops.size with h' | h'
          · have := hk m (hall m h'); omega
          · omega
        have hag := hL.congr (hLs m (Nat.le_refl _)) fun k hkm => ⟨fun _ => hkm, fun _ => hall k (by omega)⟩
        rw [hsm] at hag
        have e3 : st1 = st' := by
          rw [hmn, ← hn, List.drop_length] at e2
          cases e2; rfl
        rw [← e3] at hq
        refine hq _ _ _ (hi.sub hag.1.n (fun i u q => ?_) (fun i u q => ?_) (fun i u q => ?_))
        · rw [← hag.2]; exact q
        · rw [← hag.1.s]; exact q
        · rw [← hag.1.b]; exact q
      · have hkn : ops.size ≤ k := by
          rcases Nat.lt_or_ge k ops.size with h' | h'
          · have := (hkj k).1 (hall k h'); omega
          · exact h'
        rw [List.drop_eq_nil_of_le (by omega)] at he
        cases he
        exact hq _ _ _ hi
    | succ fuel ih =>
      intro listed a w hsz hc hcl hph
      have hcl' : ∀ j o', ops.toList[j]? = some o' → listed.getD j false = true → ∀ e ∈ o'.after, listed.getD e.on false = true := fun j o' h1 h2 => hcl j o' h2 h1
      refine ⟨fun hnil => ?_, fun i hi => ?_⟩
      · -- nothing is ready: all are done
        exfalso
        have hall : ∀ n j, j < n → j < ops.size → listed.getD j false = true := by
          intro n
          induction n with
          | zero => intro j hj; omega
          | succ n ihn =>
            intro j hj hjs
            cases hq' : listed.getD j false with
            | true => rfl
            | false =>
              exfalso
              have : j ∈ Region.ready .any ops listed := by
                rw [mem_ready]
                have hlt : j < listed.size := by omega
                refine ⟨by simpa [Array.getElem?_eq_getElem hlt] using hq', ops[j], Array.getElem?_eq_getElem hjs, fun e he _ => ?_⟩
                have := (sp.edge j ops[j] (by simp) e he).2
                exact ihn e.on (by omega) (by omega)
              rw [hnil] at this; cases this
        have : listed.toList.count false = 0 := by
          rw [List.count_eq_zero]
          intro hmem
          obtain ⟨j, hj, hjv⟩ := List.getElem_of_mem hmem
          have hj' : j < listed.size := by simpa using hj
          have := hall (j + 1) j (by omega) (by omega)
          rw [Array.getD_eq_getD_getElem?, Array.getElem?_eq_getElem hj'] at this
          simp at this hjv
          rw [hjv] at this; cases this
        omega
      · obtain ⟨h0, o, ho, hr⟩ := mem_ready.1 hi
        have hlt : i < ops.size := (Array.getElem?_eq_some_iff.1 ho).1
        have hlt' : i < listed.size := by omega
        have hoL : ops.toList[i]? = some o := by simpa using ho
        have hni : ¬ listed.getD i false = true := by
          intro q
          rw [Array.getD_eq_getD_getElem?, Array.getElem?_eq_getElem hlt'] at h0 q
          simp at h0 q
          rw [h0] at q; cases q
        have hr' : ∀ e ∈ o.after, listed.getD e.on false = true := fun e he => hr e he (sp.edge i o hoL e he).1
        obtain ⟨c1, c2⟩ := sp.clo i o hoL (fun j => listed.getD j false = true) hcl hr'
        have hnew : ∀ k, (listed.setIfInBounds i true).getD k false = true ↔ listed.getD k false = true ∨ k = i := by
          intro k
          by_cases hki : k = i
          · subst hki
            simp [hlt']
          · rw [getD_set_ne false (Ne.symm hki)]
            simp [hki]
        have hcl2 : ∀ j o', (listed.setIfInBounds i true).getD j false = true → ops.toList[j]? = some o' → ∀ e ∈ o'.after, (listed.setIfInBounds i true).getD e.on false = true := by
          intro j o' hj ho' e he
          rw [hnew] at hj ⊢
          rcases hj with hj | rfl
          · exact .inl (hcl j o' hj ho' e he)
          · rw [hoL] at ho'; cases ho'
            exact .inl (hr' e he)
        have hsz2 : (listed.setIfInBounds i true).size = ops.size := by simpa using hsz
        have hc2 := count_set hc h0
        -- the phase in which all goes by the text
        have phase2 : (∃ I s1 k, m ≤ k ∧ (∀ j, listed.getD j false = true ↔ j < k) ∧ evOps env F ops.toList (ops.toList.drop k) s1 = some st' ∧ Inv X I s1 a w) → wpOp P ops Q i (wpAny P .any ops Q fuel (listed.setIfInBounds i true)) a w := by
          rintro ⟨I1, s1, k, hk, hkj, he, hi1⟩
          have hki : k ≤ i := by
            rcases Nat.lt_or_ge i k with h' | h'
            · exact absurd ((hkj i).2 h') hni
            · exact h'
          have hik : i ≤ k := by
            rcases Nat.lt_or_ge k i with h' | h'
            · have := (hkj k).1 (c2 (by omega) k h'); omega
            · exact h'
          have hik : i = k := by omega
          subst hik
          have hdrop : ops.toList.drop i = o :: ops.toList.drop (i + 1) := by
            rw [List.drop_eq_getElem_cons (by simpa using hlt)]
            congr 1
            have := (List.getElem?_eq_some_iff.1 hoL).2
            exact this
          rw [hdrop] at he
          obtain ⟨s2, e3, e4⟩ := bnd_eq he
          obtain ⟨g1, g2⟩ := evOp_ok hP hF (ops := ops) hi1 e3
          have next : ∀ a' w' I', Inv X I' s2 a' w' → wpAny P .any ops Q fuel (listed.setIfInBounds i true) a' w' := by
            intro a' w' I' hi'
            refine ih _ a' w' hsz2 hc2 hcl2 (.inr ⟨I', s2, i + 1, by omega, fun j => ?_, e4, hi'⟩)
            rw [hnew, hkj]; omega
          simp only [wpOp, ho]
          split
          · rename_i hw
            exact .inl (g1 hw _ _ next)
          · rename_i hw
            obtain ⟨I', hi'⟩ := g2 (by simpa using hw)
            exact next _ _ I' hi'
        rcases hph with ⟨I1, s1, hL, hi1, hk⟩ | hph
        · rcases Nat.lt_or_ge i m with him | him
          · -- one of those that commute
            have hag : Agree (looks ops.toList o) (s i) s1 := by
              have hLi := hLs i (by omega)
              refine ⟨by rw [hL.n, hLi.n], by rw [hL.s, hLi.s], by rw [hL.b, hLi.b], fun t ht => ?_⟩
              by_cases hx : ∃ k, k < m ∧ k ≠ i ∧ dstAt ops.toList k = some t
              · obtain ⟨k, hk1, hk2, hk3⟩ := hx
                obtain ⟨hki, hkS⟩ := c1 him t ht k hk1 hk2 hk3
                rw [hL.on k t hk1 hkS hk3, hLi.on k t hk1 hki hk3]
              · rw [hL.off t fun k hk1 hkS hk3 => hx ⟨k, hk1, fun q => hni (by rw [← q]; exact hkS), hk3⟩, hLi.off t fun k hk1 hki hk3 => hx ⟨k, hk1, by omega, hk3⟩]
            obtain ⟨v1, v2⟩ := hsv' i o him ho
            have v1' : evOpD env F ops.toList s1 o o.guard = some (v i) := by rw [evOpD_t hmd hag]; exact v1
            have v2' := (setT_putS v2).2 s1 hag.n
            obtain ⟨g1, g2⟩ := evOpD_ok hP hmd hF hFD hi1 v1' v2'
            have next : ∀ a' w' I', Inv X I' (putS s1 o.dst (v i)) a' w' → wpAny P .any ops Q fuel (listed.setIfInBounds i true) a' w' := by
              intro a' w' I' hi'
              refine ih _ a' w' hsz2 hc2 hcl2 (.inl ⟨I', _, ?_, hi', fun k hk' => ?_⟩)
              · rw [← hdst i o ho]
                exact hL.put him hnew (sp.dst i him)
              · rcases (hnew k).1 hk' with hk' | rfl
                · exact hk k hk'
                · exact him
            simp only [wpOp, ho]
            split
            · rename_i hw
              exact .inl (g1 hw _ _ next)
            · rename_i hw
              obtain ⟨I', hi'⟩ := g2 (by simpa using hw)
              exact next _ _ I' hi'
          · -- all of those are done
            have hallm : ∀ j, j < m → listed.getD j false = true := fun j hj => c2 him j (by omega)
            have hag := hL.congr (hLs m (Nat.le_refl _)) fun k hkm => ⟨fun _ => hkm, fun _ => hallm k hkm⟩
            rw [hsm] at hag
            refine phase2 ⟨I1, st1, m, Nat.le_refl _, fun j => ⟨hk j, hallm j⟩, e2, hi1.sub hag.1.n (fun i u q => ?_) (fun i u q => ?_) (fun i u q => ?_)⟩
            · rw [← hag.2]; exact q
            · rw [← hag.1.s]; exact q
            · rw [← hag.1.b]; exact q
        · exact phase2 hph
  have hrep : ∀ k, ¬ (Array.replicate ops.size false).getD k false = true := by
    intro k q
    rw [Array.getD_eq_getD_getElem?, Array.getElem?_replicate] at q
    split at q <;> simp at q
  have hi0 : Inv X I st a { w with drawn := w.drawn + 1 } := h.alloc ⟨Nat.le_refl _, fun b arr et fz q => ⟨arr, q, rfl⟩, rfl, rfl, rfl⟩ fun b _ => rfl
  refine key ops.size _ a _ (by simp) (by simp) (fun j o' hj => absurd hj (hrep j)) (.inl ⟨I, st, ⟨rfl, rfl, rfl, fun k t _ hk => absurd hk (hrep k), fun _ _ => rfl⟩, hi0, fun k hk => absurd hk (hrep k)⟩)

end Go.Ev
