/- Slices of slices, conversions, choices, values built of parts. -/
import Derived.Test.YtgjinkacngkgdaaDoorEvH
namespace Go.Ev
set_option linter.unusedVariables false
set_option linter.unusedSimpArgs false

variable {X : Cx} {I : It} {st st' : St} {a : Act} {w w' : World} {T : Nat → Prop} {P : Program}

def OptVR (T : Nat → Prop) (I : It) (w : World) : Option SV → Option Value → Prop
  | none, none => True
  | some s, some v => VR T I w s v
  | none, some _ => False
  | some _, none => False

theorem Inv.evMaybe (h : Inv X I st a w) (o : Option Operand) : OptVR X.T I w (evMaybe st o) (o.map a.eval) := by
  cases o with
  | none => trivial
  | some x => exact h.ev x

theorem numOr_ok {d : Int} {s : Option SV} {v : Option Value} {n : Int} (h : OptVR T I w s v) (e : numOr d s = some n) : (v = none ∧ n = d) ∨ ∃ k, v = some (.int k n) := by
  unfold numOr at e
  split at e
  · cases v with
    | none => cases e; exact .inl ⟨rfl, rfl⟩
    | some v => exact h.elim
  · rename_i tv k i
    cases e
    cases v with
    | none => exact h.elim
    | some v => exact .inr ⟨k, by rw [vr_int h]⟩
  · cases e

theorem run_bound {k : IntKind} {i : Int} {y : Nat} {code : BoundsCode} (h0 : 0 ≤ i) (h1 : i ≤ y) : (Instr.sliceBound (.int k i) y code).run P w = .ok i.toNat w := by
  simp [Instr.sliceBound, asIntOf, h0, h1]

theorem cut_some {n : Nat} {lo hi : Option SV} {p : Nat × Nat} (h : cut n lo hi = some p) : ∃ l h, numOr 0 lo = some l ∧ numOr (n : Int) hi = some h ∧ 0 ≤ l ∧ l ≤ h ∧ h ≤ (n : Int) ∧ p = (l.toNat, h.toNat) := by
  obtain ⟨l, hl, h⟩ := bnd_eq h
  obtain ⟨h', hh, h⟩ := bnd_eq h
  obtain ⟨hc, h⟩ := ifB_some h
  cases h
  simp only [Bool.and_eq_true, decide_eq_true_eq] at hc
  exact ⟨l, h', hl, hh, hc.1.1, hc.1.2, hc.2, rfl⟩

theorem run_bounds2 {b : Bool} {len cap : Nat} {lo hi : Option SV} {vl vh : Option Value} {p : Nat × Nat} (hl : OptVR T I w lo vl) (hh : OptVR T I w hi vh) (h : cut len lo hi = some p) (hc : len ≤ cap) :
    (Instr.sliceBounds b len cap vl vh none).run P w = .ok (p.1, p.2, cap) w ∧ p.1 ≤ p.2 ∧ p.2 ≤ len := by
  obtain ⟨l, h', e1, e2, h0, h1, h2, rfl⟩ := cut_some h
  refine ⟨?_, by simp; omega, by simp; omega⟩
  rcases numOr_ok hl e1 with ⟨rfl, rfl⟩ | ⟨k1, rfl⟩ <;> rcases numOr_ok hh e2 with ⟨rfl, rfl⟩ | ⟨k2, rfl⟩
  · simp [Instr.sliceBounds]
  · have hb := fun code => run_bound (P := P) (w := w) (k := k2) (code := code) (i := h') (y := cap) (by omega) (by omega)
    simp [Instr.sliceBounds, hb]
  · have hb := fun code => run_bound (P := P) (w := w) (k := k1) (code := code) (i := l) (y := len) (by omega) (by omega)
    simp [Instr.sliceBounds, hb]
  · have hb := fun code => run_bound (P := P) (w := w) (k := k2) (code := code) (i := h') (y := cap) (by omega) (by omega)
    have hb1 := fun code => run_bound (P := P) (w := w) (k := k1) (code := code) (i := l) (y := h'.toNat) (by omega) (by omega)
    simp [Instr.sliceBounds, hb, hb1]

theorem run_bounds3 {b : Bool} {len cap : Nat} {lo hi mx : Option SV} {vl vh vm : Option Value} {p q : Nat × Nat} (hl : OptVR T I w lo vl) (hh : OptVR T I w hi vh) (hm : OptVR T I w mx vm)
    (h : cut len lo hi = some p) (hq : cut len none mx = some q) (hqp : q.2 = p.2) (his : hi.isSome = true) (hms : mx.isSome = true) (hc : len ≤ cap) :
    (Instr.sliceBounds b len cap vl vh vm).run P w = .ok (p.1, p.2, p.2) w ∧ p.1 ≤ p.2 ∧ p.2 ≤ len := by
  obtain ⟨l, h', e1, e2, h0, h1, h2, rfl⟩ := cut_some h
  obtain ⟨l', m, e3, e4, h3, h4, h5, rfl⟩ := cut_some hq
  simp only at hqp
  refine ⟨?_, by simp; omega, by simp; omega⟩
  have hvh : ∃ k2, vh = some (.int k2 h') := by
    rcases numOr_ok hh e2 with ⟨rfl, rfl⟩ | hx
    · cases hi with
      | none => cases his
      | some _ => exact hh.elim
    · exact hx
  have hvm : ∃ k3, vm = some (.int k3 m) := by
    rcases numOr_ok hm e4 with ⟨rfl, rfl⟩ | hx
    · cases mx with
      | none => cases hms
      | some _ => exact hm.elim
    · exact hx
  obtain ⟨k2, rfl⟩ := hvh
  obtain ⟨k3, rfl⟩ := hvm
  cases e3
  have hb3 := fun code => run_bound (P := P) (w := w) (k := k3) (code := code) (i := m) (y := cap) (by omega) (by omega)
  have hb2 := fun code => run_bound (P := P) (w := w) (k := k2) (code := code) (i := h') (y := m.toNat) (by omega) (by omega)
  rw [hqp] at hb2
  rcases numOr_ok hl e1 with ⟨rfl, rfl⟩ | ⟨k1, rfl⟩
  · simp [Instr.sliceBounds, hb3, hb2, hqp]
  · have hb1 := fun code => run_bound (P := P) (w := w) (k := k1) (code := code) (i := l) (y := h'.toNat) (by omega) (by omega)
    simp [Instr.sliceBounds, hb3, hb2, hb1, hqp]

theorem run_sliceAt {t e : TypeId} {ie : TypeInfo} {A : Option Addr} {len cap l h m : Nat} {vl vh vm : Option Value} (hu : P.underlying t = some (.slice e)) (hie : P.info? e = some ie)
    (hb : (Instr.sliceBounds true len cap vl vh vm).run P w = .ok (l, h, m) w) :
    (Instr.sliceAt t (.slice A len cap) vl vh vm).run P w = .ok (.slice (if m = l then A else A.map (·.add (l * ie.size))) (h - l) (m - l)) w := by
  simp [Instr.sliceAt, Instr.slice, run_underlying hu, hb, run_size hie]

theorem rep_slice {T' D : Nat → Prop} {e : Kd} {l : List e.T} {A : Option Addr} {c lo hi m : Nat} (h : Rep T' D w (.sl e) l [.slice A l.length c]) (h1 : lo ≤ hi) (h2 : hi ≤ l.length) (h3 : hi ≤ m) :
    Rep T' D w (.sl e) (seg l lo (hi - lo)) [.slice (if m = lo then A else A.map (·.add (lo * e.size))) (hi - lo) (m - lo)] := by
  simp only [Rep] at h ⊢
  obtain ⟨A', c', hv, hl, hel⟩ := h
  simp only [List.cons.injEq, Value.slice.injEq, and_true, true_and] at hv
  obtain ⟨rfl, rfl⟩ := hv
  have hlen : (seg l lo (hi - lo)).length = hi - lo := seg_length _ _ _ (by omega)
  refine ⟨_, _, by rw [hlen], by rw [hlen]; omega, fun i x hx => ?_⟩
  obtain ⟨hi', hx⟩ := seg_get hx
  obtain ⟨b, o, ecs, rfl, ht, hb, hel, hr, hc⟩ := hel _ x hx
  refine ⟨b, o + lo * e.size, ecs, ?_, ht, hb, hel, hr, ?_⟩
  · rw [if_neg (by omega)]; simp [Addr.add_lit]
  · have : o + lo * e.size + i * e.size = o + (lo + i) * e.size := by rw [Nat.add_mul, Nat.add_assoc]
    rw [this]; exact hc

theorem val_slice {tv : Bool} {e : Kd} {l : List e.T} {v : Value} (h : CellRel T I w (.val tv (.sl e) l) v) : ∃ A c, v = .slice A l.length c ∧ l.length ≤ c ∧ Rep (topB T I.D tv) I.D w (.sl e) l [.slice A l.length c] := by
  obtain ⟨_, hr⟩ := h
  have hr' := hr
  simp only [Rep] at hr
  obtain ⟨A, c, hv, hl, _⟩ := hr
  simp only [List.cons.injEq, and_true] at hv
  subst hv
  exact ⟨A, c, rfl, hl, hr'⟩

theorem bytes_extract (s : List UInt8) (l h : Nat) : (ByteArray.mk s.toArray).extract l h = ⟨(seg s l (h - l)).toArray⟩ := by
  apply ByteArray.ext
  simp [ByteArray.data_extract, seg]

theorem evSlice_ok {t : TypeId} {sx sv : SV} {lo hi mx : Option SV} {x : Value} {vl vh vm : Option Value} (hx : VR T I w sx x) (hl : OptVR T I w lo vl) (hh : OptVR T I w hi vh) (hm : OptVR T I w mx vm)
    (e : evSlice (tyOf P t) sx lo hi mx = some sv) : ∃ v, (Instr.sliceAt t x vl vh vm).run P w = .ok v w ∧ VR T I w sv v := by
  unfold evSlice at e
  split at e
  · have hvm : vm = none := by cases vm with
      | none => rfl
      | some _ => exact hm.elim
    subst hvm
    unfold evSlice2 at e
    split at e
    · rename_i tv s
      obtain ⟨hc, e1⟩ := ifB_some e
      obtain ⟨p, hp, e2⟩ := bnd_eq e1
      cases e2
      have := vr_str hx; subst this
      obtain ⟨d, hu, hd⟩ := ty_basic (P := P) (n := 4) (by simp) (by simpa using hc)
      have hd : d = .string := by simpa using hd
      subst hd
      obtain ⟨hb, _, _⟩ := run_bounds2 (P := P) (b := false) (len := (ByteArray.mk (List.toArray s)).size) (cap := (ByteArray.mk (List.toArray s)).size) hl hh hp (Nat.le_refl _)
      refine ⟨_, ?_, mk_str false (seg (α := UInt8) s p.1 (p.2 - p.1))⟩
      rw [← bytes_extract]
      simp [Instr.sliceAt, Instr.slice, run_underlying hu, hb]
    · rename_i tv ek l
      obtain ⟨hc, e1⟩ := ifB_some e
      simp only [Bool.and_eq_true, beq_iff_eq, decide_eq_true_eq] at hc
      obtain ⟨p, hp, e2⟩ := bnd_eq e1
      cases e2
      obtain ⟨el, ie, hu, hie, hsz, hpos, _, hek, _, _⟩ := ty_slice (P := P) (t := t) hc.1
      have hks : ie.size = ek.size := by rw [← hc.2, hek, hsz]
      obtain ⟨A, c, rfl, hlc, hr⟩ := val_slice hx
      obtain ⟨hb, h1, h2⟩ := run_bounds2 (P := P) (b := true) hl hh hp hlc
      refine ⟨_, run_sliceAt hu hie hb, rfl, ?_⟩
      rw [hks]
      exact rep_slice hr h1 h2 (by have : p.2 ≤ List.length l := h2; omega)
    · rename_i tv ek l
      obtain ⟨hc, e1⟩ := ifB_some e
      simp only [Bool.and_eq_true, beq_iff_eq, decide_eq_true_eq] at hc
      obtain ⟨p, hp, e2⟩ := bnd_eq e1
      cases e2
      obtain ⟨el, ie, hu, hie, hsz, hpos, _, hek, _, _⟩ := ty_slice (P := P) (t := t) hc.1
      have hks : ie.size = ek.size := by rw [← hc.2, hek, hsz]
      obtain ⟨⟨A, rfl⟩, hr⟩ := hx
      obtain ⟨hb, h1, h2⟩ := run_bounds2 (P := P) (b := true) hl hh hp (Nat.le_refl _)
      refine ⟨_, run_sliceAt hu hie hb, rfl, ?_⟩
      rw [hks]
      exact rep_slice hr h1 h2 h2
    · obtain ⟨hc, e1⟩ := ifB_some e
      obtain ⟨p, hp, e2⟩ := bnd_eq e1
      cases e2
      have := vr_nl hx; subst this
      obtain ⟨el, ie, hu, hie, _⟩ := ty_slice (P := P) (t := t) (by simpa using hc)
      obtain ⟨hb, h1, h2⟩ := run_bounds2 (P := P) (b := true) hl hh hp (Nat.le_refl _)
      have h3 : p.1 = 0 := by omega
      have h4 : p.2 = 0 := by omega
      refine ⟨_, run_sliceAt hu hie hb, ?_⟩
      rw [h3, h4]
      exact mk_nl _
    · rename_i k L off len
      obtain ⟨hc, e1⟩ := ifB_some e
      simp only [Bool.and_eq_true, beq_iff_eq, decide_eq_true_eq] at hc
      obtain ⟨p, hp, e2⟩ := bnd_eq e1
      cases e2
      obtain ⟨el, ie, hu, hie, hsz, hpos, _, hek, _, _⟩ := ty_slice (P := P) (t := t) hc.1
      have hks : ie.size = k.size := by rw [← hc.2, hek, hsz]
      obtain ⟨A, c, rfl, hlc, hn, hA⟩ := hx
      obtain ⟨hb, h1, h2⟩ := run_bounds2 (P := P) (b := true) hl hh hp hlc
      refine ⟨_, run_sliceAt hu hie hb, _, _, rfl, by omega, by omega, ?_⟩
      rcases hA with hA | ⟨b, base, hβ, rfl, hr⟩
      · left; omega
      · by_cases he : c = p.1
        · left; omega
        · right
          refine ⟨b, base, hβ, ?_, ?_⟩
          · rw [if_neg he, hks]; simp [Addr.add_lit, Nat.add_mul, Nat.add_assoc]
          · have : off + p.1 + (c - p.1) = off + c := by omega
            rw [this]; exact hr
    · cases e
  · rename_i m
    obtain ⟨his, e0⟩ := ifB_some e
    unfold evSlice3 at e0
    split at e0
    · rename_i tv ek l
      obtain ⟨hc, e1⟩ := ifB_some e0
      simp only [Bool.and_eq_true, beq_iff_eq, decide_eq_true_eq] at hc
      obtain ⟨p, hp, e2⟩ := bnd_eq e1
      obtain ⟨q, hq, e3⟩ := bnd_eq e2
      obtain ⟨hqp, e4⟩ := ifB_some e3
      cases e4
      obtain ⟨el, ie, hu, hie, hsz, hpos, _, hek, _, _⟩ := ty_slice (P := P) (t := t) hc.1
      have hks : ie.size = ek.size := by rw [← hc.2, hek, hsz]
      obtain ⟨A, c, rfl, hlc, hr⟩ := val_slice hx
      obtain ⟨hb, h1, h2⟩ := run_bounds3 (P := P) (b := true) hl hh hm hp hq (by simpa using hqp) his rfl hlc
      have hlen : (seg (α := ek.T) l p.1 (p.2 - p.1)).length = p.2 - p.1 := seg_length _ _ _ (by omega)
      refine ⟨_, run_sliceAt hu hie hb, ⟨_, by rw [hlen]⟩, ?_⟩
      rw [hks]
      exact rep_slice hr h1 h2 (Nat.le_refl _)
    · obtain ⟨hc, e1⟩ := ifB_some e0
      obtain ⟨p, hp, e2⟩ := bnd_eq e1
      obtain ⟨q, hq, e3⟩ := bnd_eq e2
      cases e3
      have := vr_nl hx; subst this
      obtain ⟨el, ie, hu, hie, _⟩ := ty_slice (P := P) (t := t) (by simpa using hc)
      have hq2 : q.2 = p.2 := by
        obtain ⟨_, _, _, _, _, _, _, rfl⟩ := cut_some hq
        obtain ⟨_, _, _, _, _, _, _, rfl⟩ := cut_some hp
        simp; omega
      obtain ⟨hb, h1, h2⟩ := run_bounds3 (P := P) (b := true) hl hh hm hp hq hq2 his rfl (Nat.le_refl _)
      have h3 : p.1 = 0 := by omega
      have h4 : p.2 = 0 := by omega
      refine ⟨_, run_sliceAt hu hie hb, ?_⟩
      rw [h3, h4]
      exact mk_nl _
    · cases e0

/-! choices -/
theorem unw_ok {s : SV} {b : Bool} {c : Cell} {v : Value} (h : VR T I w s v) (e : unw s = some (b, c)) (hb : b = true) : CellRel T I w c v := by
  unfold unw at e
  split at e
  · cases e; exact h
  · cases e; exact h.1 hb
  · cases e

theorem pickC_some {c a b : Bool × Cell} {r : Bool × Bool} (e : pickC c a b = some r) : ∃ gc tc t ga ta x gb tb y, c = (gc, .val tc .bool t) ∧ a = (ga, .val ta .bool x) ∧ b = (gb, .val tb .bool y) ∧
    r = (gc && (impB t ga && impB (!t) gb), (t && x) || (!t && y)) := by
  unfold pickC at e
  split at e
  · cases e; exact ⟨_, _, _, _, _, _, _, _, _, rfl, rfl, rfl, rfl⟩
  · cases e

theorem pick_ok {sc sa sb : SV} {c x y : Value} {r : Bool × Bool} (hc : VR T I w sc c) (ha : VR T I w sa x) (hb : VR T I w sb y) (e : pickV sc sa sb = some r) (hr : r.1 = true) :
    (do pure (.value (if ← asBool c then x else y)) : Sem Next).run P w = .ok (.value (.bool r.2)) w := by
  obtain ⟨p1, e1, e⟩ := bnd_eq e
  obtain ⟨p2, e2, e⟩ := bnd_eq e
  obtain ⟨p3, e3, e⟩ := bnd_eq e
  obtain ⟨gc, tc, t, ga, ta, x', gb, tb, y', rfl, rfl, rfl, rfl⟩ := pickC_some e
  simp only [Bool.and_eq_true] at hr
  have := vr_bool (unw_ok hc e1 hr.1)
  subst this
  cases t with
  | true =>
    have := vr_bool (unw_ok ha e2 (by simpa [impB] using hr.2.1))
    subst this
    simp [asBool]
  | false =>
    have := vr_bool (unw_ok hb e3 (by simpa [impB] using hr.2.2))
    subst this
    simp [asBool]

end Go.Ev
