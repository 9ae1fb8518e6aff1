/- The operations that read: what the evaluator says of them holds. -/
import Derived.Test.YtgjinkacngkgdaaDoorEvG
import Derived.Laws.BytesString
namespace Go.Ev
set_option linter.unusedVariables false
set_option linter.unusedSimpArgs false

variable {X : Cx} {I : It} {st st' : St} {a : Act} {w w' : World} {T : Nat → Prop} {P : Program}

theorem rep_length {T D : Nat → Prop} {w : World} : ∀ {k : Kd} {x : k.T} {cs : List Value}, Rep T D w k x cs → cs.length = k.size := by
  intro k
  induction k with
  | pair a b iha ihb =>
    intro x cs h
    simp only [Rep] at h
    obtain ⟨c, d, rfl, hl, h1, h2⟩ := h
    simp [Kd.size, hl, ihb h2]
  | int ik => intro x cs h; simp only [Rep] at h; subst h; rfl
  | bool => intro x cs h; simp only [Rep] at h; subst h; rfl
  | str => intro x cs h; simp only [Rep] at h; subst h; rfl
  | unit => intro x cs h; simp only [Rep] at h; subst h; rfl
  | nl => intro x cs h; simp only [Rep] at h; subst h; rfl
  | sl e => intro x cs h; simp only [Rep] at h; obtain ⟨A, c, rfl, _⟩ := h; rfl
  | ptr e => intro x cs h; simp only [Rep] at h; obtain ⟨b, o, ecs, rfl, _⟩ := h; rfl
  | clo f c => intro x cs h; simp only [Rep] at h; obtain ⟨p, rfl, _⟩ := h; rfl
  | self => intro x cs h; simp [Rep] at h

theorem size_one {k : Kd} (h : k.isAgg = false) : k.size = 1 := by cases k <;> first | rfl | cases h

theorem rep_single {T D : Nat → Prop} {w : World} {k : Kd} {x : k.T} {cs : List Value} (ha : k.isAgg = false) (h : Rep T D w k x cs) : ∃ v, cs = [v] := by
  have := rep_length h
  rw [size_one ha] at this
  match cs, this with
  | [v], _ => exact ⟨v, rfl⟩

theorem Rep.mono {T D T' D' : Nat → Prop} {w : World} {k : Kd} {x : k.T} {cs : List Value} (h : Rep T D w k x cs) (hT : ∀ b, T b → T' b) (hD : ∀ b, D b → D' b) : Rep T' D' w k x cs :=
  h.tr (fun b hb hl => ⟨hT b hb, hl, fun _ _ x => x⟩) (fun b hb hl => ⟨hD b hb, hl, fun _ _ x => x⟩)

theorem explode_length (tv : Bool) : ∀ (k : Kd) (x : k.T), (explode tv k x).length = k.size := by
  intro k
  induction k with
  | pair a b iha ihb => intro x; simp [explode, Kd.size, iha, ihb]
  | _ => intro x; rfl

theorem explode_single (tv : Bool) {k : Kd} (x : k.T) (ha : k.isAgg = false) (hs : k ≠ .self) : explode tv k x = [.val tv k x] := by
  cases k with
  | self => exact absurd rfl hs
  | pair a b => cases ha
  | unit => cases ha
  | _ => rfl

theorem explode_ok {tv : Bool} : ∀ {k : Kd} {x : k.T} {cs : List Value}, Rep (topB T I.D tv) I.D w k x cs → All2 (CellRel T I w) (explode tv k x) cs := by
  intro k
  induction k with
  | pair a b iha ihb =>
    intro x cs h
    simp only [Rep] at h
    obtain ⟨c, d, rfl, hl, h1, h2⟩ := h
    exact (iha h1).append (ihb h2)
  | unit => intro x cs h; simp only [Rep] at h; subst h; trivial
  | self => intro x cs h; simp [Rep] at h
  | _ =>
    intro x cs h
    obtain ⟨v, rfl⟩ := rep_single rfl h
    exact ⟨⟨rfl, h⟩, trivial⟩

theorem oneAt_some {cs : List Cell} {off : Nat} {sv : SV} (h : oneAt cs off = some sv) : ∃ c, cs[off]? = some c ∧ sv = .one c := by
  induction cs generalizing off with
  | nil => cases h
  | cons c cs ih =>
    cases off with
    | zero => cases h; exact ⟨c, rfl, rfl⟩
    | succ n => simpa using ih h

theorem ofCells_ok {R : Cell → Value → Prop} {cs : List Cell} {vs : List Value} {ag : Bool} {n off : Nat} {sv : SV} (h : All2 R cs vs) (e : ofCells ag n off cs = some sv) :
    (ag = true ∧ off + n ≤ vs.length ∧ SVP R sv (.agg (seg vs off n).toArray)) ∨ (ag = false ∧ ∃ v, vs[off]? = some v ∧ SVP R sv v) := by
  cases ag with
  | true =>
    left
    obtain ⟨hl, e⟩ := ifB_some (b := decide ((off + n) ≤ cs.length)) (x := some (SV.agg (seg cs off n))) e
    cases e
    exact ⟨rfl, by rw [← h.length]; simpa using hl, _, rfl, h.seg off n⟩
  | false =>
    right
    obtain ⟨c, hc, rfl⟩ := oneAt_some (cs := cs) (off := off) (sv := sv) e
    obtain ⟨v, hv, hr⟩ := h.get _ _ hc
    exact ⟨rfl, v, hv, hr⟩

theorem run_loadAt {t : TypeId} {cs : List Cell} {vs : List Value} {b o off : Nat} {sv : SV} (hk : (tyOf P t).ok = true) (hc : CellsAt w b o vs) (ha : All2 (CellRel T I w) cs vs)
    (e : ofCells (tyOf P t).agg (tyOf P t).size off cs = some sv) : ∃ v, (Instr.loadAt t (.pointer (some ⟨b, o + off, none⟩))).run P w = .ok v w ∧ VR T I w sv v := by
  obtain ⟨i, d, hi, hd, hsz, hag, _, _⟩ := tyOf_known P t (.inl hk)
  rw [hag, hsz] at e
  rcases ofCells_ok ha e with ⟨hb, hl, hv⟩ | ⟨hb, v, hg, hv⟩
  · refine ⟨_, ?_, hv⟩
    have hlen : (seg vs off i.size).length = i.size := seg_length _ _ _ hl
    have := run_loadCells_list (P := P) w ⟨b, o + off, none⟩ (seg vs off i.size) (fun j v hj => by
      rw [Addr.add_lit]
      obtain ⟨_, hj⟩ := seg_get hj
      have := hc _ _ hj
      rw [Nat.add_assoc]; exact this)
    rw [hlen] at this
    simp [Instr.loadAt, Instr.sureAddr, loadVar, run_isAgg hd, hb, run_size hi, this]
  · refine ⟨v, ?_, hv⟩
    have := hc _ _ hg
    simp [Instr.loadAt, Instr.sureAddr, loadVar, run_isAgg hd, hb, this]

theorem evLoad_ok {t : TypeId} {sx sv : SV} {x : Value} (h : Inv X I st a w) (hx : VR X.T I w sx x) (e : evLoad (tyOf P t) st sx = some sv) :
    ∃ v, (Instr.loadAt t x).run P w = .ok v w ∧ VR X.T I w sv v := by
  obtain ⟨hk, e'⟩ := ifB_some e
  clear e
  unfold evLoad1 at e'
  split at e'
  · rename_i B off
    obtain ⟨bx, hb, e⟩ := bnd_eq e'
    have hx : x = _ := hx
    subst hx
    obtain ⟨_, vs, ha, hc, _⟩ := h.b B bx hb
    simpa using run_loadAt (P := P) hk hc ha e
  · rename_i k L i fo
    obtain ⟨b, base, hb, rfl, _⟩ := hx
    have e := e'
    clear e'
    cases ho : aget st.s L with
    | none => rw [ho] at e; cases e
    | some o =>
      rw [ho] at e
      obtain ⟨l, hl, e⟩ := bnd_eq e
      obtain ⟨ek, rfl⟩ := asL_some hl
      subst ek
      obtain ⟨y, hy, e⟩ := bnd_eq e
      obtain ⟨_, hobj, _⟩ := h.s L o ho
      obtain ⟨b', base', ecs, hb', hel, hr, hc⟩ := hobj i y hy
      rw [hb] at hb'; cases hb'
      exact run_loadAt (P := P) hk hc (explode_ok (tv := false) (hr.mono (fun b hb => .inl hb) fun b hb => hb)) e
  · rename_i tv k y
    obtain ⟨_, hr⟩ := hx
    simp only [Rep] at hr
    obtain ⟨b, o, ecs, hv, ht, hb, hl, hr, hc⟩ := hr
    simp only [List.cons.injEq, and_true] at hv
    subst hv
    simpa using run_loadAt (P := P) (off := 0) hk hc (explode_ok hr) e'
  · rename_i tv k y
    obtain ⟨b, o, ecs, rfl, ht, hb, hl, hr, hc⟩ := hx
    simpa using run_loadAt (P := P) (off := 0) hk hc (explode_ok (tv := false) (hr.mono (fun b hb => .inl hb) fun b hb => hb)) e'
  · cases e'

/-! indices -/
theorem inIx_some {i : Int} {n j : Nat} (h : inIx i n = some j) : 0 ≤ i ∧ i < n ∧ j = i.toNat ∧ j < n := by
  obtain ⟨hc, h⟩ := ifB_some h
  cases h
  simp only [Bool.and_eq_true, decide_eq_true_eq] at hc
  exact ⟨hc.1, hc.2, rfl, by omega⟩

theorem run_indexAt {t e : TypeId} {ie : TypeInfo} {b o len cap : Nat} {k : IntKind} {i : Int} {j : Nat} (hu : P.underlying t = some (.slice e)) (hie : P.info? e = some ie) (hi : inIx i len = some j) :
    (Instr.indexAt t (.slice (some ⟨b, o, none⟩) len cap) (.int k i)).run P w = .ok (.pointer (some ⟨b, o + j * ie.size, none⟩)) w := by
  obtain ⟨h0, h1, rfl, _⟩ := inIx_some hi
  have he : P.elem t = e := by simp [Program.elem, hu]
  rw [run_indexAt_slice w t ⟨b, o, none⟩ len cap k i (by rw [he]; exact hu), if_pos ⟨h0, h1⟩, he, run_size hie]
  simp [Addr.add_lit]

theorem evIndexAddr_ok {t : TypeId} {sx si sv : SV} {x i : Value} (h : Inv X I st a w) (hx : VR X.T I w sx x) (hi : VR X.T I w si i) (e : evIndexAddr (tyOf P t) sx si = some sv) :
    ∃ v, (Instr.indexAt t x i).run P w = .ok v w ∧ VR X.T I w sv v := by
  unfold evIndexAddr at e
  split at e
  · rename_i k L off len tv ik n
    obtain ⟨hc, e⟩ := ifB_some e
    simp only [Bool.and_eq_true, beq_iff_eq, decide_eq_true_eq] at hc
    obtain ⟨j, hj, e⟩ := bnd_eq e
    cases e
    have := vr_int hi; subst this
    obtain ⟨A, c, rfl, hlc, hn, hA⟩ := hx
    obtain ⟨e, ie, hu, hie, hsz, hpos, _, hek, _, _⟩ := ty_slice (P := P) (t := t) hc.1
    obtain ⟨h0, h1, hj', hjn⟩ := inIx_some hj
    rcases hA with hA | ⟨b, base, hb, rfl, hroom⟩
    · omega
    · refine ⟨_, run_indexAt hu hie hj, b, base, hb, ?_, hroom.mono (Nat.zero_le _)⟩
      have hks : ie.size = k.size := by rw [← hc.2, hek, hsz]
      rw [hks, Nat.add_mul, Nat.add_assoc, Nat.add_zero]
  · rename_i tv ek l tv' ik n
    obtain ⟨hc, e⟩ := ifB_some e
    simp only [Bool.and_eq_true, beq_iff_eq, decide_eq_true_eq] at hc
    obtain ⟨j, hj, e⟩ := bnd_eq e
    obtain ⟨y, hy, e⟩ := bnd_eq e
    cases e
    have := vr_int hi; subst this
    obtain ⟨_, hr⟩ := hx
    simp only [Rep] at hr
    obtain ⟨A, c, hv, hlc, hel⟩ := hr
    simp only [List.cons.injEq, and_true] at hv
    subst hv
    obtain ⟨e, ie, hu, hie, hsz, hpos, _, hek, _, _⟩ := ty_slice (P := P) (t := t) hc.1
    obtain ⟨b, o, ecs, rfl, ht, hb, hel, hrep, hcs⟩ := hel j y hy
    have hks : ie.size = ek.size := by rw [← hc.2, hek, hsz]
    exact ⟨_, run_indexAt hu hie hj, b, _, ecs, rfl, ht, hb, hel, hrep, by rw [hks]; exact hcs⟩
  · rename_i tv ek l tv' ik n
    obtain ⟨hc, e⟩ := ifB_some e
    simp only [Bool.and_eq_true, beq_iff_eq, decide_eq_true_eq] at hc
    obtain ⟨j, hj, e⟩ := bnd_eq e
    obtain ⟨y, hy, e⟩ := bnd_eq e
    cases e
    have := vr_int hi; subst this
    obtain ⟨_, hr⟩ := hx
    simp only [Rep] at hr
    obtain ⟨A, c, hv, hlc, hel⟩ := hr
    simp only [List.cons.injEq, and_true] at hv
    subst hv
    obtain ⟨e, ie, hu, hie, hsz, hpos, _, hek, _, _⟩ := ty_slice (P := P) (t := t) hc.1
    obtain ⟨b, o, ecs, rfl, ht, hb, hel, hrep, hcs⟩ := hel j y hy
    have hks : ie.size = ek.size := by rw [← hc.2, hek, hsz]
    exact ⟨_, run_indexAt hu hie hj, b, _, ecs, rfl, ht, hb, hel, hrep, by rw [hks]; exact hcs⟩
  · rename_i B off tv ik n
    obtain ⟨hc, e⟩ := ifB_some e
    obtain ⟨j, hj, e⟩ := bnd_eq e
    cases e
    have := vr_int hi; subst this
    have hx : x = _ := hx
    subst hx
    obtain ⟨m, el, ie, hu, hie, hpos, _, hm, hen, _⟩ := ty_array (P := P) (t := t) (by simpa using hc)
    rw [hm] at hj
    obtain ⟨h0, h1, rfl, _⟩ := inIx_some hj
    refine ⟨_, ?_, rfl⟩
    have he : P.elem t = el := by simp [Program.elem, hu]
    have hl : P.arrayLen t = m := by simp [Program.arrayLen, hu]
    rw [run_indexAt_array w t _ _ _ (by rw [he, hl]; exact hu), if_pos ⟨h0, by rw [hl]; exact h1⟩, he, run_size hie, hen]
    simp [Addr.add_lit]
  · cases e

theorem bytes_get (s : List UInt8) (i : Nat) (b : UInt8) (h : s[i]? = some b) : (ByteArray.mk s.toArray)[i]? = some b := by
  have hl : i < s.length := by
    rcases Nat.lt_or_ge i s.length with h' | h'
    · exact h'
    · rw [List.getElem?_eq_none h'] at h; cases h
  have h3 : i < (ByteArray.mk s.toArray).size := hl
  rw [List.getElem?_eq_getElem hl] at h
  rw [← h]
  exact dif_pos h3

theorem evIndex_ok {t : TypeId} {sx si sv : SV} {x i : Value} (hx : VR T I w sx x) (hi : VR T I w si i) (e : evIndex (tyOf P t) sx si = some sv) :
    ∃ v, (Instr.index t x i).run P w = .ok v w ∧ VR T I w sv v := by
  unfold evIndex at e
  split at e
  · rename_i cs tv ik n
    obtain ⟨hc, e⟩ := ifB_some e
    simp only [Bool.and_eq_true, beq_iff_eq] at hc
    obtain ⟨j, hj, e⟩ := bnd_eq e
    have := vr_int hi; subst this
    obtain ⟨vs, rfl, ha⟩ := hx
    obtain ⟨m, el, ie, hu, hie, hpos, _, hm, hen, heb⟩ := ty_array (P := P) (t := t) hc.1.1.1
    obtain ⟨hag, d, hd⟩ := heb hc.1.2
    obtain ⟨c, hcj, rfl⟩ := oneAt_some e
    obtain ⟨v, hv, hr⟩ := ha.get _ _ hcj
    rw [hm] at hj
    obtain ⟨h0, h1, rfl, _⟩ := inIx_some hj
    have hs1 : ie.size = 1 := by rw [← hen]; exact hc.1.1.2
    refine ⟨v, ?_, hr⟩
    simp [Instr.index, asIntOf, run_underlying hu, h0, h1, run_size hie, hs1, part, run_isAgg hd, hag, hv]
  · rename_i tv s tv' ik n
    obtain ⟨hc, e1⟩ := ifB_some e
    obtain ⟨j, hj, e2⟩ := bnd_eq e1
    obtain ⟨b, hb, e3⟩ := bnd_eq e2
    have := vr_int hi; subst this
    have := vr_str hx; subst this
    obtain ⟨d, hu, hd⟩ := ty_basic (P := P) (n := 4) (by simp) (by simpa using hc)
    have hd : d = .string := by simpa using hd
    subst hd
    obtain ⟨h0, h1, rfl, h2⟩ := inIx_some hj
    refine ⟨_, ?_, tI_ok e3⟩
    have hg : (ByteArray.mk (List.toArray s))[Int.toNat n]? = some b := bytes_get s (Int.toNat n) b hb
    simp [Instr.index, asIntOf, run_underlying hu, h0, hg]
  · cases e

theorem nth_eq {α : Type} (l : List α) (n : Nat) : nth l n = l[n]? := by
  induction l generalizing n with
  | nil => rfl
  | cons x l ih => cases n with
    | zero => rfl
    | succ n => simpa [nth] using ih n

theorem fldAt_ok {t : TypeId} {f : Nat} {q : Nat × Nat × Bool} (h : fldAt (tyOf P t) f = some q) : ∃ fs fd fi d, P.underlying t = some (.struct fs) ∧ fs[f]? = some fd ∧ P.info? fd.type = some fi ∧ P.underlying fd.type = some d ∧
    0 < fi.size ∧ q = (fd.offset, fi.size, aggT P fd.type) := by
  obtain ⟨hc, h⟩ := ifB_some h
  obtain ⟨fs, hu, hfl, hok⟩ := ty_struct (P := P) (t := t) (by simpa using hc)
  rw [hfl, nth_eq, List.getElem?_map] at h
  cases hq : fs.toList[f]? with
  | none => rw [hq] at h; cases h
  | some fd =>
    rw [hq] at h
    simp only [Option.map_some, Option.some.injEq] at h
    have := hok fd (List.mem_of_getElem? hq)
    unfold fieldOk at this
    cases hi : P.info? fd.type with
    | none => rw [hi] at this; cases this
    | some fi =>
      rw [hi] at this
      simp only [Bool.and_eq_true, decide_eq_true_eq] at this
      obtain ⟨d, hd⟩ := Option.isSome_iff_exists.1 this.2
      refine ⟨fs, fd, fi, d, hu, by simpa using hq, hi, hd, this.1, ?_⟩
      rw [← h]; simp [fieldE, hi]

theorem run_fieldAt {t : TypeId} {f b o : Nat} {q : Nat × Nat × Bool} (h : fldAt (tyOf P t) f = some q) :
    (Instr.fieldAt t (.pointer (some ⟨b, o, none⟩)) f).run P w = .ok (.pointer (some ⟨b, o + q.1, none⟩)) w := by
  obtain ⟨fs, fd, fi, d, hu, hf, hi, hd, hpos, rfl⟩ := fldAt_ok h
  have hne : ¬ fi.size = 0 := by omega
  simp [Instr.fieldAt, run_underlying hu, hf, Instr.sureAddr, fieldPlace, run_size hi, hne, Addr.add_lit]

theorem dropK_ok {T D : Nat → Prop} {w : World} : ∀ (n : Nat) (k : Kd) (x : k.T) (v : Val) (cs : List Value), dropK n k x = some v → Rep T D w k x cs → ∃ c d, cs = c ++ d ∧ c.length = n ∧ Rep T D w v.k v.x d
  | 0, k, x, v, cs, h, hr => by
    simp only [dropK, Option.some.injEq] at h; subst h; exact ⟨[], cs, rfl, rfl, hr⟩
  | n + 1, .pair a b, x, v, cs, h, hr => by
    simp only [dropK] at h
    obtain ⟨hs, h⟩ := ifB_some h
    simp only [Rep] at hr
    obtain ⟨c, d, rfl, hl, h1, h2⟩ := hr
    obtain ⟨c', d', rfl, hl', h3⟩ := dropK_ok n b x.2 v d h h2
    refine ⟨c ++ c', d', by simp, ?_, h3⟩
    simp only [beq_iff_eq] at hs
    simp [hl, hl', hs, Nat.add_comm]
  | n + 1, .int k, _, _, _, h, _ => by cases h
  | n + 1, .bool, _, _, _, h, _ => by cases h
  | n + 1, .str, _, _, _, h, _ => by cases h
  | n + 1, .unit, _, _, _, h, _ => by cases h
  | n + 1, .sl e, _, _, _, h, _ => by cases h
  | n + 1, .nl, _, _, _, h, _ => by cases h
  | n + 1, .ptr e, _, _, _, h, _ => by cases h
  | n + 1, .clo f c, _, _, _, h, _ => by cases h
  | n + 1, .self, _, _, _, h, _ => by cases h

theorem CellsAt.right {w : World} {b o : Nat} {c d : List Value} (h : CellsAt w b o (c ++ d)) : CellsAt w b (o + c.length) d := by
  intro j v hj
  have := h (c.length + j) v (by rw [List.getElem?_append_right (Nat.le_add_right _ _)]; simpa using hj)
  rwa [← Nat.add_assoc] at this

theorem CellsAt.left {w : World} {b o : Nat} {c d : List Value} (h : CellsAt w b o (c ++ d)) : CellsAt w b o c := by
  intro j v hj
  have hl : j < c.length := by
    rcases Nat.lt_or_ge j c.length with h | h
    · exact h
    · rw [List.getElem?_eq_none h] at hj; cases hj
  exact h j v (by rw [List.getElem?_append_left hl]; exact hj)

theorem evFieldAddr_ok {t : TypeId} {f : Nat} {sx sv : SV} {x : Value} (hx : VR T I w sx x) (e : evFieldAddr (tyOf P t) f sx = some sv) :
    ∃ v, (Instr.fieldAt t x f).run P w = .ok v w ∧ VR T I w sv v := by
  unfold evFieldAddr at e
  split at e
  · obtain ⟨q, hq, e⟩ := bnd_eq e
    cases e
    have hx : x = _ := hx
    subst hx
    exact ⟨_, run_fieldAt hq, rfl⟩
  · obtain ⟨q, hq, e⟩ := bnd_eq e
    cases e
    obtain ⟨b, base, hb, rfl, hr⟩ := hx
    exact ⟨_, run_fieldAt hq, b, base, hb, by rw [Nat.add_assoc], hr⟩
  · rename_i tv k y
    obtain ⟨q, hq, e⟩ := bnd_eq e
    obtain ⟨v, hv, e⟩ := bnd_eq e
    cases e
    obtain ⟨_, hr⟩ := hx
    simp only [Rep] at hr
    obtain ⟨b, o, ecs, hx, ht, hb, hl, hr, hc⟩ := hr
    simp only [List.cons.injEq, and_true] at hx
    subst hx
    obtain ⟨c, d, rfl, hcl, hrd⟩ := dropK_ok _ _ _ _ _ hv hr
    refine ⟨_, run_fieldAt hq, rfl, ?_⟩
    simp only [Rep]
    exact ⟨b, o + q.1, d, rfl, ht, hb, rep_length hrd, hrd, by rw [← hcl]; exact hc.right⟩
  · rename_i tv k y
    obtain ⟨q, hq, e⟩ := bnd_eq e
    obtain ⟨v, hv, e⟩ := bnd_eq e
    cases e
    obtain ⟨b, o, ecs, rfl, ht, hb, hl, hr, hc⟩ := hx
    obtain ⟨c, d, rfl, hcl, hrd⟩ := dropK_ok _ _ _ _ _ hv hr
    exact ⟨_, run_fieldAt hq, b, o + q.1, d, rfl, ht, hb, rep_length hrd, hrd, by rw [← hcl]; exact hc.right⟩
  · cases e

theorem evField_ok {t : TypeId} {f : Nat} {sx sv : SV} {x : Value} (hx : VR T I w sx x) (e : evField (tyOf P t) f sx = some sv) :
    ∃ v, (Instr.field t x f).run P w = .ok v w ∧ VR T I w sv v := by
  unfold evField at e
  split at e
  · obtain ⟨q, hq, e⟩ := bnd_eq e
    obtain ⟨fs, fd, fi, d, hu, hf, hi, hd, hpos, rfl⟩ := fldAt_ok hq
    obtain ⟨vs, rfl, ha⟩ := hx
    rcases ofCells_ok ha e with ⟨hb, hl, hv⟩ | ⟨hb, v, hg, hv⟩
    · simp only at hb
      refine ⟨_, ?_, hv⟩
      simp only [Instr.field, Sem.run_bind, run_underlying hu, Result.andThen_ok, hf, asAgg, Sem.run_pure, part, run_isAgg hd, hb, run_size hi, if_true]
      congr 2
      apply Array.ext'
      simp [seg, List.take_drop, Nat.add_comm]
    · simp only at hb
      refine ⟨v, ?_, hv⟩
      simp [Instr.field, run_underlying hu, hf, asAgg, part, run_isAgg hd, hb, hg]
  · cases e

theorem mkSV_true : ∀ cs : List Cell, mkSV true cs = .agg cs
  | [] => rfl
  | [_] => rfl
  | _ :: _ :: _ => rfl

theorem mkSV_ok {R : Cell → Value → Prop} {p : Bool × List Cell} {v : Value} (h : CompP R p v) : SVP R (mkSV p.1 p.2) v := by
  rcases h with ⟨h1, vs, rfl, ha⟩ | ⟨h1, c, h2, hr⟩
  · rw [h1, mkSV_true]
    exact ⟨vs, rfl, ha⟩
  · rw [h1, h2]; exact hr

theorem evExtract_ok {i : Nat} {sx sv : SV} {x : Value} (hx : VR T I w sx x) (e : evExtract i sx = some sv) : ∃ v, (Instr.extract x i).run P w = .ok v w ∧ VR T I w sv v := by
  unfold evExtract at e
  split at e
  · rename_i l
    obtain ⟨vs, rfl, ha⟩ := hx
    have : ∀ (l : List (Bool × List Cell)) (vs : List Value) (i : Nat), All2 (CompP (CellRel T I w)) l vs → compAt l i = some sv → ∃ v, vs[i]? = some v ∧ VR T I w sv v := by
      intro l
      induction l with
      | nil => intro vs i _ h; cases h
      | cons p l ih =>
        intro vs i h1 h2
        cases vs with
        | nil => exact h1.elim
        | cons v vs =>
          cases i with
          | zero => cases h2; exact ⟨v, rfl, mkSV_ok h1.1⟩
          | succ i => simpa using ih vs i h1.2 h2
    obtain ⟨v, hv, hr⟩ := this l vs i ha e
    exact ⟨v, by simp [Instr.extract, hv], hr⟩
  · cases e

theorem evLen_ok {t ty : TypeId} {sx : SV} {x : Value} {n : Nat} (hx : VR T I w sx x) (e : evLen (tyOf P t) sx = some n) : (Builtin.len_ #[t] ty #[x]).run P w = .ok (goInt n) w := by
  have hs : ∀ {A : Option Addr} {l c : Nat}, ((tyOf P t).form == 1) = true → (Builtin.len_ #[t] ty #[.slice A l c]).run P w = .ok (goInt l) w := by
    intro A l c h
    obtain ⟨e, ie, hu, _⟩ := ty_slice (P := P) (t := t) (by simpa using h)
    simp [Builtin.len_, run_underlying hu]
  unfold evLen at e
  split at e
  · obtain ⟨hc, e⟩ := ifB_some e
    cases e
    have := vr_str hx; subst this
    obtain ⟨d, hu, hd⟩ := ty_basic (P := P) (n := 4) (by simp) (by simpa using hc)
    have hd : d = .string := by simpa using hd
    subst hd
    simp only [Builtin.len_, List.getElem?_toArray, List.getElem?_cons_zero, Sem.run_bind, run_underlying hu, Result.andThen_ok, Sem.run_pure]
    rfl
  · obtain ⟨hc, e⟩ := ifB_some e
    cases e
    obtain ⟨_, hr⟩ := hx
    simp only [Rep] at hr
    obtain ⟨A, c, hv, _⟩ := hr
    simp only [List.cons.injEq, and_true] at hv
    subst hv
    exact hs hc
  · obtain ⟨hc, e⟩ := ifB_some e
    cases e
    obtain ⟨⟨A, rfl⟩, _⟩ := hx
    exact hs hc
  · obtain ⟨hc, e⟩ := ifB_some e
    cases e
    have := vr_nl hx; subst this
    exact hs hc
  · obtain ⟨hc, e⟩ := ifB_some e
    cases e
    obtain ⟨A, c, rfl, _⟩ := hx
    exact hs hc
  · cases e

theorem fold_ok {f : SV → SV → Option SV} {g : Value → Value → Sem Value} (hf : ∀ sx sy sv x y, VR T I w sx x → VR T I w sy y → f sx sy = some sv → ∃ v, (g x y).run P w = .ok v w ∧ VR T I w sv v) :
    ∀ (l : List SV) (vs : List Value) (sa sv : SV) (x : Value), All2 (VR T I w) l vs → VR T I w sa x → foldV f l sa = some sv → ∃ v, (vs.foldlM g x).run P w = .ok v w ∧ VR T I w sv v
  | [], [], sa, sv, x, _, hx, e => by cases e; exact ⟨x, rfl, hx⟩
  | b :: l, y :: vs, sa, sv, x, h, hx, e => by
    obtain ⟨s1, e1, e⟩ := bnd_eq e
    obtain ⟨v1, hv1, hr1⟩ := hf _ _ _ _ _ hx h.1 e1
    obtain ⟨v, hv, hr⟩ := fold_ok hf l vs s1 sv v1 h.2 hr1 e
    exact ⟨v, by simp [List.foldlM_cons, hv1, hv], hr⟩
  | [], _ :: _, _, _, _, h, _, _ => h.elim
  | _ :: _, [], _, _, _, h, _, _ => h.elim

theorem maxV_ok (sx sy sv : SV) (x y : Value) (hx : VR T I w sx x) (hy : VR T I w sy y) (e : maxV sx sy = some sv) : ∃ v, (Builtin.max2 x y).run P w = .ok v w ∧ VR T I w sv v := by
  unfold maxV at e
  split at e
  · rename_i k a _ k' b
    obtain ⟨hk, e⟩ := ifB_some e
    have e1 := vr_int hx; have e2 := vr_int hy
    subst e1 e2
    refine ⟨_, rfl, ?_⟩
    have := tI_ok (T := T) (I := I) (w := w) e
    have h2 : ∀ a b : Int, max a b = if b > a then b else a := by intro a b; rw [Int.max_def]; split <;> split <;> omega
    rw [h2] at this; exact this
  · cases e

theorem minV_ok (sx sy sv : SV) (x y : Value) (hx : VR T I w sx x) (hy : VR T I w sy y) (e : minV sx sy = some sv) : ∃ v, (Builtin.min2 x y).run P w = .ok v w ∧ VR T I w sv v := by
  unfold minV at e
  split at e
  · rename_i k a _ k' b
    obtain ⟨hk, e⟩ := ifB_some e
    have e1 := vr_int hx; have e2 := vr_int hy
    subst e1 e2
    refine ⟨_, rfl, ?_⟩
    have := tI_ok (T := T) (I := I) (w := w) e
    have h2 : ∀ a b : Int, min a b = if b < a then b else a := by intro a b; rw [Int.min_def]; split <;> split <;> omega
    rw [h2] at this; exact this
  · cases e

end Go.Ev
