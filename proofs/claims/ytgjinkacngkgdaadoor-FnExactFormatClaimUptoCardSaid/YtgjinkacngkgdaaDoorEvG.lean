/- The operations that read no memory: what the evaluator says of them holds. -/
import Derived.Test.YtgjinkacngkgdaaDoorEvF
import Derived.Laws.Strings
import Derived.Laws.Concat
namespace Go.Ev
set_option linter.unusedVariables false
set_option linter.unusedSimpArgs false

variable {X : Cx} {I : It} {st st' : St} {a : Act} {w w' : World} {T : Nat → Prop} {P : Program}

abbrev VR (T : Nat → Prop) (I : It) (w : World) : SV → Value → Prop := SVP (CellRel T I w)

theorem vr_one {c : Cell} {v : Value} (h : CellRel T I w c v) : VR T I w (.one c) v := h
theorem vr_int {tv : Bool} {k : IntKind} {n : Int} {v : Value} (h : CellRel T I w (.val tv (.int k) n) v) : v = .int k n := by
  simpa [CellRel, Rep] using h.2
theorem vr_bool {tv : Bool} {b : Bool} {v : Value} (h : CellRel T I w (.val tv .bool b) v) : v = .bool b := by
  simpa [CellRel, Rep] using h.2
theorem vr_str {tv : Bool} {s : List UInt8} {v : Value} (h : CellRel T I w (.val tv .str s) v) : v = .string ⟨s.toArray⟩ := by
  simpa [CellRel, Rep] using h.2
theorem vr_nl {tv : Bool} {u : Unit} {v : Value} (h : CellRel T I w (.val tv .nl u) v) : v = .slice none 0 0 := by
  simpa [CellRel, Rep] using h.2
theorem mk_int (tv : Bool) (k : IntKind) (n : Int) : CellRel T I w (.val tv (.int k) n) (.int k n) := ⟨rfl, by simp [Rep]⟩
theorem mk_bool (tv : Bool) (b : Bool) : CellRel T I w (.val tv .bool b) (.bool b) := ⟨rfl, by simp [Rep]⟩
theorem mk_str (tv : Bool) (s : List UInt8) : CellRel T I w (.val tv .str s) (.string ⟨s.toArray⟩) := ⟨rfl, by simp [Rep]⟩
theorem mk_nl (tv : Bool) : CellRel T I w (.val tv .nl ()) (.slice none 0 0) := ⟨rfl, by simp [Rep]⟩

theorem tI_ok {k : IntKind} {n : Int} {sv : SV} (h : tI k n = some sv) : VR T I w sv (.int k n) := by cases h; exact mk_int _ _ _
theorem tB_ok {b : Bool} {sv : SV} (h : tB b = some sv) : VR T I w sv (.bool b) := by cases h; exact mk_bool _ _

/-! operands -/
theorem cellOf_ok {v : Value} (h : plainV v = true) : CellRel T I w (cellOf v) v := by
  unfold cellOf
  split
  · exact mk_int _ _ _
  · exact mk_bool _ _
  · rename_i s; have := mk_str (T := T) (I := I) (w := w) false s.data.toList; simpa using this
  · exact mk_nl _
  · show v.oneCell' = true
    cases v <;> first | rfl | cases h

theorem allPlain_ok : ∀ {l : List Value}, allPlain l = true → All2 (CellRel T I w) (l.map cellOf) l
  | [], _ => trivial
  | v :: r, h => by
    simp only [allPlain, ifB_ite] at h
    split at h
    · rename_i hv; exact ⟨cellOf_ok hv, allPlain_ok h⟩
    · cases h

theorem plain_one {v : Value} (h : okComp v = true) (hv : ∀ cs, v ≠ .agg cs) : plainV v = true := by
  cases v <;> first | rfl | (exact absurd rfl (hv _)) | cases h

theorem comp_ok {v : Value} (h : okComp v = true) : CompP (CellRel T I w) (compOf v) v := by
  by_cases hv : ∃ cs, v = .agg cs
  · obtain ⟨cs, rfl⟩ := hv
    exact .inl ⟨rfl, cs.toList, by simp, allPlain_ok h⟩
  · have hv : ∀ cs, v ≠ .agg cs := fun cs e => hv ⟨cs, e⟩
    have e : compOf v = (false, [cellOf v]) := by cases v <;> first | rfl | (exact absurd rfl (hv _))
    rw [e]
    exact .inr ⟨rfl, _, rfl, cellOf_ok (plain_one h hv)⟩

theorem okComps_ok : ∀ {l : List Value}, okComps l = true → All2 (CompP (CellRel T I w)) (l.map compOf) l
  | [], _ => trivial
  | v :: r, h => by
    simp only [okComps, ifB_ite] at h
    split at h
    · rename_i hv; exact ⟨comp_ok hv, okComps_ok h⟩
    · cases h

theorem constSV_one {v : Value} (h1 : ∀ cs, v ≠ .agg cs) (h2 : ∀ vs, v ≠ .tuple vs) : constSV v = .one (cellOf v) := by
  cases v <;> first | rfl | exact absurd rfl (h1 _) | exact absurd rfl (h2 _)

theorem constSV_ok (v : Value) : VR T I w (constSV v) v := by
  cases v with
  | agg cs =>
    simp only [constSV, ifB_ite]
    split
    · rename_i h; exact ⟨cs.toList, by simp, allPlain_ok h⟩
    · trivial
  | tuple vs =>
    simp only [constSV, ifB_ite]
    split
    · rename_i h; exact ⟨vs.toList, by simp, okComps_ok h⟩
    · trivial
  | _ =>
    rw [constSV_one (by simp) (by simp)]
    exact vr_one (cellOf_ok rfl)

theorem Inv.ev (h : Inv X I st a w) (o : Operand) : VR X.T I w (st.ev o) (a.eval o) := by
  cases o with
  | tmp t =>
    simp only [St.ev, Act.eval]
    cases hq : aget st.t t with
    | none => trivial
    | some v => exact h.t t v hq
  | const v => exact constSV_ok v
  | global g => rfl
  | func f => show _ = _; rfl

/-! numbers, strings, truths -/
theorem bitsV_eq (op : BinOp) (k : IntKind) (x y : Int) : bitsV op k x y = bits op k x y := by cases op <;> rfl

theorem intOp_ok {t : TypeId} {op : BinOp} {k k' : IntKind} {x y : Int} {sv : SV} (hk : k = k' ∨ op = .shl ∨ op = .shr) (h : intOp k x y op = some sv) :
    ∃ v, (binOp op t (.int k x) (.int k' y)).run P w = .ok v w ∧ VR T I w sv v := by
  cases op
  case shl =>
    obtain ⟨hb, h⟩ : decide (y < 0) = false ∧ tI k (shlV k x y) = some sv := by
      simp only [intOp, ifB_ite] at h; split at h
      · cases h
      · rename_i hb; exact ⟨by simpa using hb, h⟩
    have hb : ¬ y < 0 := by simpa using hb
    refine ⟨_, ?_, tI_ok h⟩
    rw [binOp_shl]; simp [Op.shift, hb, shlV]
  case shr =>
    obtain ⟨hb, h⟩ : decide (y < 0) = false ∧ tI k (shrV k x y) = some sv := by
      simp only [intOp, ifB_ite] at h; split at h
      · cases h
      · rename_i hb; exact ⟨by simpa using hb, h⟩
    have hb : ¬ y < 0 := by simpa using hb
    refine ⟨_, ?_, tI_ok h⟩
    rw [binOp_shr]; simp [Op.shift, hb, shrV]
  all_goals
    have hk : k = k' := by rcases hk with hk | hk | hk <;> first | exact hk | cases hk
    subst hk
  case quo =>
    simp only [intOp, ifB_ite, beq_iff_eq] at h
    split at h
    · cases h
    · rename_i hy; exact ⟨_, by rw [binOp_quo]; simp [Op.intDiv, hy], tI_ok h⟩
  case rem =>
    simp only [intOp, ifB_ite, beq_iff_eq] at h
    split at h
    · cases h
    · rename_i hy; exact ⟨_, by rw [binOp_rem]; simp [Op.intDiv, hy], tI_ok h⟩
  case add => exact ⟨_, by rw [binOp_add]; rfl, tI_ok h⟩
  case sub => exact ⟨_, by rw [binOp_sub]; rfl, tI_ok h⟩
  case mul => exact ⟨_, by rw [binOp_mul]; rfl, tI_ok h⟩
  case and => exact ⟨_, by rw [binOp_and]; rfl, tI_ok h⟩
  case or => exact ⟨_, by rw [binOp_or]; rfl, tI_ok h⟩
  case xor => exact ⟨_, by rw [binOp_xor]; rfl, tI_ok h⟩
  case andNot => exact ⟨_, by rw [binOp_andNot]; rfl, tI_ok h⟩
  case eql => exact ⟨_, by rw [binOp_eql]; rfl, tB_ok h⟩
  case neq => exact ⟨_, by rw [binOp_neq]; rfl, tB_ok h⟩
  case lss => exact ⟨_, by rw [binOp_lss]; rfl, tB_ok h⟩
  case leq => exact ⟨_, by rw [binOp_leq]; rfl, tB_ok h⟩
  case gtr => exact ⟨_, by rw [binOp_gtr]; rfl, tB_ok h⟩
  case geq => exact ⟨_, by rw [binOp_geq]; rfl, tB_ok h⟩

theorem strOp_ok {t : TypeId} {op : BinOp} {x y : List UInt8} {sv : SV} (h : strOp x y op = some sv) :
    ∃ v, (binOp op t (.string ⟨x.toArray⟩) (.string ⟨y.toArray⟩)).run P w = .ok v w ∧ VR T I w sv v := by
  cases op <;> try (cases h; done)
  case add =>
    obtain ⟨hb, h⟩ := ifB_some h
    cases h
    have hb : x.length + y.length ≤ 9223372036854775807 := by simpa using hb
    refine ⟨.string ⟨(x ++ y).toArray⟩, ?_, mk_str _ _⟩
    rw [binOp_string_add, run_string_add_sum _ _ _ (by simpa [ByteArray.size] using hb)]
    exact congrArg (fun s => Result.ok (Value.string s) w) (by apply ByteArray.ext; simp [ByteArray.data_append])
  case eql => exact ⟨_, by rw [binOp_string_eql, ByteArray.toList_mk, ByteArray.toList_mk]; rfl, tB_ok h⟩
  case neq => exact ⟨_, by rw [binOp_string_neq, ByteArray.toList_mk, ByteArray.toList_mk]; rfl, tB_ok h⟩

theorem eqOp_ok {t : TypeId} {op : BinOp} {x y : Value} {r : Option Bool} {sv : SV} (hi : ∀ k n, x ≠ .int k n) (hs : ∀ s, x ≠ .string s) (hf : ∀ k n, x ≠ .float k n) (hc : ∀ k n m, x ≠ .complex k n m)
    (he : ∀ b, r = some b → (Op.equal t x y).run P w = .ok b w) (h : eqOp r op = some sv) :
    ∃ v, (binOp op t x y).run P w = .ok v w ∧ VR T I w sv v := by
  cases op <;> try (cases h; done)
  case eql =>
    obtain ⟨b, hb, h⟩ := bnd_eq h
    refine ⟨.bool b, ?_, tB_ok h⟩
    have : binOp .eql t x y = (do pure (.bool (← Op.equal t x y))) := by
      unfold binOp; cases x <;> first | rfl | (exact absurd rfl (hi _ _)) | (exact absurd rfl (hs _)) | (exact absurd rfl (hf _ _)) | (exact absurd rfl (hc _ _ _))
    rw [this]; simp [he b hb]
  case neq =>
    obtain ⟨b, hb, h⟩ := bnd_eq h
    refine ⟨.bool (!b), ?_, tB_ok h⟩
    have : binOp .neq t x y = (do pure (.bool (!(← Op.equal t x y)))) := by
      unfold binOp; cases x <;> first | rfl | (exact absurd rfl (hi _ _)) | (exact absurd rfl (hs _)) | (exact absurd rfl (hf _ _)) | (exact absurd rfl (hc _ _ _))
    rw [this]; simp [he b hb]

/-! what is known of a type -/
theorem tyOf_split (P : Program) (t : TypeId) (h : (tyOf P t).ok = true ∨ (tyOf P t).form ≠ 0 ∨ (tyOf P t).zok = true) : ∃ i d, P.info? t = some i ∧ P.underlying t = some d ∧ tyOf P t = formT P (baseT P t i) d := by
  unfold tyOf at *
  cases hi : P.info? t with
  | none => rw [hi] at h; simp [tyOf2] at h
  | some i =>
    cases hd : P.underlying t with
    | none => rw [hi, hd] at h; simp [tyOf2] at h
    | some d => exact ⟨i, d, rfl, rfl, rfl⟩

theorem formT_base (P : Program) (base : TyE) (d : TypeDesc) : (formT P base d).size = base.size ∧ (formT P base d).agg = base.agg ∧ (formT P base d).zero = base.zero ∧ (formT P base d).zok = base.zok ∧ (formT P base d).ok = base.ok ∧ (formT P base d).hint = base.hint := by
  cases d with
  | slice e => simp only [formT]; cases P.info? e <;> simp only [sliceT] <;> (try split) <;> simp
  | array n e => simp only [formT]; cases P.info? e <;> simp only [arrayT] <;> (try split) <;> simp
  | struct fs => simp only [formT, structT]; split <;> simp
  | _ => simp [formT]

theorem tyOf_known (P : Program) (t : TypeId) (h : (tyOf P t).ok = true ∨ (tyOf P t).form ≠ 0 ∨ (tyOf P t).zok = true) :
    ∃ i d, P.info? t = some i ∧ P.underlying t = some d ∧ (tyOf P t).size = i.size ∧ (tyOf P t).agg = aggT P t ∧ (tyOf P t).zero = zeroC i ∧ (tyOf P t).zok = zeroOk i := by
  obtain ⟨i, d, h1, h2, h3⟩ := tyOf_split P t h
  obtain ⟨e1, e2, e3, e4, e5, _⟩ := formT_base P (baseT P t i) d
  exact ⟨i, d, h1, h2, by rw [h3, e1]; rfl, by rw [h3, e2]; rfl, by rw [h3, e3]; rfl, by rw [h3, e4]; rfl⟩

theorem run_isAgg {t : TypeId} {d : TypeDesc} (h : P.underlying t = some d) : (isAgg t).run P w = .ok (aggT P t) w := by
  unfold isAgg aggT
  rw [h]
  cases d <;> simp [run_underlying h]

theorem run_size {t : TypeId} {i : TypeInfo} (h : P.info? t = some i) : (sizeOf t).run P w = .ok i.size w := by simp [sizeOf, typeInfo, h]

theorem ty_slice {t : TypeId} (h : (tyOf P t).form = 1) : ∃ e ie, P.underlying t = some (.slice e) ∧ P.info? e = some ie ∧ (kindT P e).size = ie.size ∧ 0 < ie.size ∧ zOk (kindT P e) ie.zero = true ∧
    (tyOf P t).ek = kindT P e ∧ (tyOf P t).en = ie.size ∧ (tyOf P t).eb = ie.bytes := by
  obtain ⟨i, d, h1, h2, h3⟩ := tyOf_split P t (.inr (.inl (by omega)))
  rw [h3] at h ⊢
  cases d with
  | slice e =>
    simp only [formT] at h ⊢
    cases hie : P.info? e with
    | none => simp [hie, sliceT, baseT] at h
    | some ie =>
      simp only [hie, sliceT] at h ⊢
      split at h
      · rename_i hc
        rw [if_pos hc]
        simp only [Bool.and_eq_true, beq_iff_eq, decide_eq_true_eq] at hc
        exact ⟨e, ie, h2, hie, hc.1.1, hc.1.2, hc.2, rfl, rfl, rfl⟩
      · simp [baseT] at h
  | array n e => simp only [formT] at h; cases hie : P.info? e <;> simp only [hie, arrayT] at h <;> (try split at h) <;> simp [baseT] at h
  | struct fs => simp only [formT, structT] at h; split at h <;> simp [baseT] at h
  | _ => simp [formT, baseT] at h

theorem ty_array {t : TypeId} (h : (tyOf P t).form = 2) : ∃ n e ie, P.underlying t = some (.array n e) ∧ P.info? e = some ie ∧ 0 < ie.size ∧ 2 ≤ n ∧ (tyOf P t).n = n ∧ (tyOf P t).en = ie.size ∧
    ((tyOf P t).eb = 0 → aggT P e = false ∧ ∃ d, P.underlying e = some d) := by
  obtain ⟨i, d, h1, h2, h3⟩ := tyOf_split P t (.inr (.inl (by omega)))
  rw [h3] at h ⊢
  cases d with
  | slice e => simp only [formT] at h; cases hie : P.info? e <;> simp only [hie, sliceT] at h <;> (try split at h) <;> simp [baseT] at h
  | array n e =>
    simp only [formT] at h ⊢
    cases hie : P.info? e with
    | none => simp [hie, arrayT, baseT] at h
    | some ie =>
      simp only [hie, arrayT] at h ⊢
      split at h
      · rename_i hc
        rw [if_pos hc]
        simp only [Bool.and_eq_true, decide_eq_true_eq] at hc
        refine ⟨n, e, ie, h2, hie, hc.1, hc.2, rfl, rfl, fun he => ?_⟩
        cases hb : aggT P e <;> cases hu : P.underlying e <;> simp [hb, hu, ifB] at he
        exact ⟨rfl, _, rfl⟩
      · simp [baseT] at h
  | struct fs => simp only [formT, structT] at h; split at h <;> simp [baseT] at h
  | _ => simp [formT, baseT] at h

theorem ty_struct {t : TypeId} (h : (tyOf P t).form = 3) : ∃ fs, P.underlying t = some (.struct fs) ∧ (tyOf P t).flds = fs.toList.map (fieldE P) ∧ (∀ f ∈ fs.toList, fieldOk P f = true) := by
  obtain ⟨i, d, h1, h2, h3⟩ := tyOf_split P t (.inr (.inl (by omega)))
  rw [h3] at h ⊢
  cases d with
  | slice e => simp only [formT] at h; cases hie : P.info? e <;> simp only [hie, sliceT] at h <;> (try split at h) <;> simp [baseT] at h
  | array n e => simp only [formT] at h; cases hie : P.info? e <;> simp only [hie, arrayT] at h <;> (try split at h) <;> simp [baseT] at h
  | struct fs =>
    simp only [formT, structT] at h ⊢
    split at h
    · rename_i hc
      rw [if_pos hc]
      exact ⟨fs, h2, rfl, List.all_eq_true.1 hc⟩
    · simp [baseT] at h
  | _ => simp [formT, baseT] at h

theorem ty_basic {t : TypeId} {n : Nat} (hn : n = 4 ∨ n = 5 ∨ n = 6) (h : (tyOf P t).form = n) : ∃ d, P.underlying t = some d ∧ ((n = 4 ∧ d = .string) ∨ (n = 5 ∧ ∃ k, d = .int k) ∨ (n = 6 ∧ d = .bool)) := by
  obtain ⟨i, d, h1, h2, h3⟩ := tyOf_split P t (.inr (.inl (by omega)))
  rw [h3] at h
  refine ⟨d, h2, ?_⟩
  cases d with
  | slice e => simp only [formT] at h; cases hie : P.info? e <;> simp only [hie, sliceT] at h <;> (try split at h) <;> simp [baseT] at h <;> omega
  | array m e => simp only [formT] at h; cases hie : P.info? e <;> simp only [hie, arrayT] at h <;> (try split at h) <;> simp [baseT] at h <;> omega
  | struct fs => simp only [formT, structT] at h; split at h <;> simp [baseT] at h <;> omega
  | string => simp [formT] at h; exact .inl ⟨h.symm, rfl⟩
  | int k => simp [formT] at h; exact .inr (.inl ⟨h.symm, k, rfl⟩)
  | bool => simp [formT] at h; exact .inr (.inr ⟨h.symm, rfl⟩)
  | _ => simp [formT, baseT] at h; omega

theorem isNil_ok {t e : TypeId} {c : Cell} {x : Value} {b : Bool} (hu : P.underlying t = some (.slice e)) (hx : CellRel T I w c x) (h : isNil c = some b) :
    (Op.equal t x (.slice none 0 0)).run P w = .ok b w ∧ ∃ A l c, x = .slice A l c := by
  have key : ∀ A l c, b = (A : Option Addr).isNone → (Op.equal t (.slice A l c) (.slice none 0 0)).run P w = .ok b w := by
    intro A l c hb
    unfold Op.equal Op.maxDepth
    rw [Op.equalIn]
    cases A with
    | none => simp [run_underlying hu]; simpa using hb.symm
    | some A => simp [run_underlying hu]; simpa using hb.symm
  cases c with
  | val tv k y =>
    cases k with
    | nl => have := vr_nl hx; subst this; cases h; exact ⟨key _ _ _ rfl, _, _, _, rfl⟩
    | sl ek =>
      obtain ⟨_, hr⟩ := hx
      simp only [Rep] at hr
      obtain ⟨A, c, e1, hl, hel⟩ := hr
      simp only [List.cons.injEq, and_true] at e1
      subst e1
      refine ⟨key _ _ _ ?_, _, _, _, rfl⟩
      cases y with
      | nil => cases h
      | cons z zs =>
        cases h
        obtain ⟨b, o, ecs, hA, _⟩ := hel 0 z rfl
        simp [hA]
    | _ => cases h
  | hdr k L off len =>
    simp only [isNil, ifB_ite, beq_iff_eq] at h
    obtain ⟨A, c, rfl, hl, hn, hc⟩ := hx
    split at h
    · cases h
    · rename_i hne
      cases h
      refine ⟨key _ _ _ ?_, _, _, _, rfl⟩
      rcases hc with hc | ⟨b, base, e1, e2, _⟩
      · omega
      · simp [e2]
  | _ => cases h

theorem eqGuard_slice (op : BinOp) (t : TypeId) (ox oy : Operand) (A : Option Addr) (l c : Nat) (y : Value) : eqGuard op t ox oy (.slice A l c) y = pure () := by cases op <;> rfl

theorem evBin_ok {t : TypeId} {op : BinOp} {ox oy : Operand} {sx sy : SV} {x y : Value} {sv : SV} (hx : VR T I w sx x) (hy : VR T I w sy y) (h : evBin (tyOf P t) op sx sy = some sv) :
    ∃ v, (do eqGuard op t ox oy x y; binOp op t x y : Sem Value).run P w = .ok v w ∧ VR T I w sv v := by
  unfold evBin at h
  split at h
  · rename_i k x' _ k' y'
    obtain ⟨hk, h⟩ := ifB_some h
    have e1 := vr_int hx; have e2 := vr_int hy
    subst e1 e2
    obtain ⟨v, h1, h2⟩ := intOp_ok (t := t) (P := P) (T := T) (I := I) (w := w) (k := k) (k' := k') (by simpa [or_assoc] using hk) h
    exact ⟨v, by simp [eqGuard_at_int, h1], h2⟩
  · have e1 := vr_str hx; have e2 := vr_str hy
    subst e1 e2
    obtain ⟨v, h1, h2⟩ := strOp_ok (t := t) (P := P) (T := T) (I := I) (w := w) h
    exact ⟨v, by simp [eqGuard_at_string, h1], h2⟩
  · rename_i tva bx tvb by'
    obtain ⟨hf, h⟩ := ifB_some h
    have e1 := vr_bool hx; have e2 := vr_bool hy
    subst e1 e2
    obtain ⟨d, hu, hd⟩ := ty_basic (n := 6) (by simp) (by simpa using hf)
    have hd : d = .bool := by simpa using hd
    subst hd
    obtain ⟨v, h1, h2⟩ := eqOp_ok (t := t) (P := P) (T := T) (I := I) (w := w) (x := .bool bx) (y := .bool by') (by simp) (by simp) (by simp) (by simp) (by
      intro b hb; cases hb
      unfold Op.equal Op.maxDepth
      rw [Op.equalIn]
      simp [run_underlying hu]) h
    exact ⟨v, by simp [eqGuard_at_bool, h1], h2⟩
  · rename_i c tvc uc
    obtain ⟨hf, h⟩ := ifB_some h
    obtain ⟨e, ie, hu, _⟩ := ty_slice (P := P) (t := t) (by simpa using hf)
    have e2 := vr_nl hy
    subst e2
    have hx : CellRel T I w c x := hx
    by_cases hsl : ∃ A l cc, x = .slice A l cc
    · obtain ⟨A, l, cc, rfl⟩ := hsl
      obtain ⟨v, h1, h2⟩ := eqOp_ok (t := t) (P := P) (T := T) (I := I) (w := w) (x := .slice A l cc) (y := .slice none 0 0) (by simp) (by simp) (by simp) (by simp) (fun b hb => (isNil_ok hu hx hb).1) h
      exact ⟨v, by simp [eqGuard_slice, h1], h2⟩
    · exfalso
      cases op <;> try (cases h; done)
      all_goals
        obtain ⟨b, hb, _⟩ := bnd_eq h
        exact hsl (isNil_ok hu hx hb).2
  · cases h

theorem evUn_ok {op : UnOp} {sx : SV} {x : Value} {sv : SV} (hx : VR T I w sx x) (h : evUn op sx = some sv) :
    ∃ v, (Op.unary op x).run P w = .ok v w ∧ VR T I w sv v := by
  unfold evUn at h
  split at h
  · have e := vr_bool hx; subst e; exact ⟨_, rfl, tB_ok h⟩
  · have e := vr_int hx; subst e; exact ⟨_, rfl, tI_ok h⟩
  · rename_i k n
    have e := vr_int hx; subst e
    refine ⟨_, rfl, ?_⟩
    have := tI_ok (T := T) (I := I) (w := w) h
    rw [bitsV_eq, ifB_ite] at this
    exact this
  · cases h

theorem evNil_ok {x : Value} {d : Option Nat} (h : Inv X I st a w) {sx : SV} (hx : VR X.T I w sx x) (e : evNil st d sx = some st') : Inv X I st' (a.put d x) w ∧ ∃ A, x = .pointer (some A) := by
  unfold evNil at e
  split at e
  · have h1 : x = _ := hx
    exact ⟨h.setT hx e, _, h1⟩
  · refine ⟨h.setT hx e, ?_⟩
    have h1 := hx.2
    simp only [Rep] at h1
    obtain ⟨b, o, ecs, e1, _⟩ := h1
    simp only [List.cons.injEq, and_true] at e1
    exact ⟨_, e1⟩
  · cases e

end Go.Ev
