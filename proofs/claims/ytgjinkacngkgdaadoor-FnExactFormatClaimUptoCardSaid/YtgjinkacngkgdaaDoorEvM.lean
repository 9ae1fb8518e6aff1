/- More new objects; values built of parts; boxes; stores. -/
import Derived.Test.YtgjinkacngkgdaaDoorEvK
namespace Go.Ev
set_option linter.unusedVariables false
set_option linter.unusedSimpArgs false

variable {X : Cx} {I : It} {st st' : St} {a : Act} {w w' : World} {T : Nat → Prop} {P : Program}

/-! append to what is not of ours -/
theorem app_fresh {ts : Array TypeId} {t e ty : TypeId} {i : TypeInfo} {z : Value} (ht : AppTy P ts t e i) (hz : i.zero = some z) {k : Kd} {L cap : Nat} {A : Option Addr} {x : Value} {old xs : List k.T}
    (hks : i.size = k.size) (hzs : z.cells.size = k.size) (h : Inv X I st a w) (hL : L < PL) (hs : SlRel (P := P) I.D w k old k.size (.slice A old.length cap)) (hx : SlRel (P := P) I.D w k xs k.size x)
    (hgrow : cap < old.length + xs.length) (hr : roomy (old.length + xs.length) i.bytes = true) :
    ∃ v w' I', (Builtin.append_ ts ty #[.slice A old.length cap, x]).run P w = .ok v w' ∧ Inv X I' (st.newObj L ⟨k, old ++ xs⟩) a w' ∧ CellRel X.T I' w' (.hdr k L 0 (old.length + xs.length)) v := by
  obtain ⟨_, olds, hof, hor⟩ := hs
  obtain ⟨hxl, news, hnews, hfc⟩ := hx
  rw [← hks] at hor hfc
  obtain ⟨hr1, hr2⟩ := roomy_some hr
  have hrun := run_app_grow (P := P) (w := w) (ty := ty) ht hz hxl (hfc w.drew rfl) (hor w.drew rfl) hgrow hr2 hr1
  have hfl : Flat I.D w k (old ++ xs) (olds ++ news) := hof.append hnews
  have hlen : (old ++ xs).length = old.length + xs.length := by simp
  have hge := grownCap_ge w (old.length + xs.length) cap e
  obtain ⟨e1, e2⟩ := grown_arr (n := 0) (cs := olds ++ news) (z := z) (need := old.length + xs.length) (cap := grownCap w (old.length + xs.length) cap e) (size := k.size) hzs (by rw [hfl.length, hlen]) hge
  obtain ⟨I', h1, h2⟩ := h.grown (w' := w.drew.alloc (.cells (olds.toArray ++ news.toArray ++ Builtin.zeroCells z.cells (grownCap w (old.length + xs.length) cap e - (old.length + xs.length))) e)) hL hfl
    (arr := olds.toArray ++ news.toArray ++ Builtin.zeroCells z.cells (grownCap w (old.length + xs.length) cap e - (old.length + xs.length))) (et := e) (by rw [← e1]; simp) (by rw [← e2]; simp) (by rw [hlen]; exact hge) rfl
  rw [hlen] at h2
  exact ⟨_, _, I', hrun, h1, h2⟩

theorem setT_some {v : SV} {d : Option Nat} (h : st.setT v d = some st') : ∀ d', d = some d' → d' < st.n ∧ st' = ⟨st.n, aset st.t d' v, st.s, st.b⟩ := by
  intro d' e
  subst e
  obtain ⟨hd, h⟩ := ifB_some h
  cases h
  exact ⟨by simpa using hd, rfl⟩

theorem lab_lt (h : Inv X I st a w) {d : Nat} (hd : d < st.n) {j : Nat} (hj : j < 1000) : d * 1000 + j < PL := by
  have := h.nb
  unfold PL
  omega

theorem lab0 (h : Inv X I st a w) {d : Nat} (hd : d < st.n) : d * 1000 < PL := by
  have := lab_lt h hd (j := 0) (by omega)
  rwa [Nat.add_zero] at this

theorem evAppend_ok {ts : Array TypeId} {t ty : TypeId} {d : Option Nat} {ss sx : SV} {s x : Value} (h0 : ts[0]? = some t) (h1 : ∀ u, ts[1]? = some u → ∃ d, P.underlying u = some d ∧ ∀ k, d ≠ .int k)
    (h : Inv X I st a w) (hs : VR X.T I w ss s) (hx : VR X.T I w sx x) (e : evAppend (tyOf P t) st ss sx d = some st') :
    ∃ v w' I', (Builtin.append_ ts ty #[s, x]).run P w = .ok v w' ∧ Inv X I' st' (a.put d v) w' := by
  cases d with
  | none => cases e
  | some d =>
  obtain ⟨hf, e1⟩ := ifB_some e
  obtain ⟨el, ie, hu, hie, hsz, hpos, hzok, hek, hen, heb⟩ := ty_slice (P := P) (t := t) (by simpa using hf)
  obtain ⟨z, zl, hz, _, _⟩ := zOk_some hzok
  have hzs : z.cells.size = (kindT P el).size := zOk_size (by rw [← hz]; exact hzok)
  have ht : AppTy P ts t el ie := ⟨h0, hu, hie, h1⟩
  rw [← hek] at hsz hzs
  unfold evAppend1 at e1
  split at e1
  · rename_i k L off len
    cases ho : aget st.s L with
    | none => rw [ho] at e1; cases e1
    | some o =>
      rw [ho] at e1
      obtain ⟨xs, hxs, e2⟩ := bnd_eq e1
      obtain ⟨l, hl, e3⟩ := bnd_eq e2
      obtain ⟨hc, e4⟩ := ifB_some e3
      obtain ⟨ek, rfl⟩ := asL_some hl
      subst ek
      simp only [Bool.and_eq_true, beq_iff_eq, decide_eq_true_eq, castL_rfl] at hc
      obtain ⟨⟨⟨_, hk⟩, hL⟩, hr⟩ := hc
      rw [castL_rfl] at e4
      rw [hk] at hsz hzs
      obtain ⟨v, w', I', hrun, hi, hv⟩ := app_hdr (P := P) (ty := ty) ht hz hsz.symm hzs h ho hL hs (elemsOf_ok h hx hxs) (by rw [← heb]; exact hr)
      exact ⟨v, w', I', hrun, hi.setT (vr_one hv) e4⟩
  · obtain ⟨xs, hxs, e2⟩ := bnd_eq e1
    obtain ⟨hr, e3⟩ := ifB_some e2
    have := vr_nl hs; subst this
    have hd := (setT_some e3 d rfl).1
    have hL : d * 1000 < PL := lab0 h hd
    have hxr := elemsOf_ok (P := P) h hx hxs
    cases hxe : xs with
    | nil =>
      subst hxe
      obtain ⟨hxl, news, hnews, hfc⟩ := hxr
      simp only [Flat] at hnews
      subst hnews
      rw [hsz] at hfc
      have hi := h.newObj (L := d * 1000) (o := ⟨(tyOf P t).ek, []⟩) none ⟨by simp, by simp, by simp, fun hp => absurd hp (by omega)⟩ (fun i x hx => by simp at hx) (by simp) (by simp)
      exact ⟨_, w, _, run_app_none ht hxl (hfc w rfl) (Nat.le_refl _), hi.setT (v := .slice none 0 0) (vr_one (c := .hdr (tyOf P t).ek (d * 1000) 0 ([] : List (tyOf P t).ek.T).length) ⟨none, 0, rfl, Nat.le_refl _, by simp, .inl rfl⟩) e3⟩
    | cons y ys =>
      obtain ⟨v, w', I', hrun, hi, hv⟩ := app_fresh (P := P) (ty := ty) (A := none) (cap := 0) (old := []) ht hz hsz.symm hzs h hL (sl_slice fun i x hx => by simp at hx) hxr (by simp [hxe]) (by simpa [← heb] using hr)
      simp only [List.nil_append, List.length_nil, Nat.zero_add] at hi hv hrun
      exact ⟨v, w', I', hrun, hi.setT (vr_one hv) e3⟩
  · rename_i tv k l
    obtain ⟨xs, hxs, e2⟩ := bnd_eq e1
    cases hxe : xs with
    | nil => rw [hxe] at e2; cases e2
    | cons y ys =>
      rw [hxe] at e2
      obtain ⟨hc, e3⟩ := ifB_some e2
      simp only [Bool.and_eq_true, decide_eq_true_eq] at hc
      have hd := (setT_some e3 d rfl).1
      have hL : d * 1000 < PL := lab0 h hd
      have hxr := elemsOf_ok (P := P) h hx hxs
      rw [hc.1] at hsz hzs
      obtain ⟨⟨A, rfl⟩, hr⟩ := hs
      simp only [Rep] at hr
      obtain ⟨A', c', hv, _, hel⟩ := hr
      simp only [List.cons.injEq, Value.slice.injEq, and_true, true_and] at hv
      obtain ⟨rfl, rfl⟩ := hv
      have hsr : SlRel (P := P) I.D w k l k.size (.slice A l.length l.length) := sl_slice fun i x hx => by
        obtain ⟨b, o, ecs, e1, _, _, e2, e3, e4⟩ := hel i x hx
        exact ⟨b, o, ecs, e1, e2, e3, e4⟩
      obtain ⟨v, w', I', hrun, hi, hv⟩ := app_fresh (P := P) (ty := ty) (A := A) (cap := l.length) (old := l) (xs := xs) ht hz hsz.symm hzs h hL hsr hxr (by simp [hxe]) (by rw [hxe]; simpa [← heb] using hc.2)
      rw [hxe] at hi hv
      exact ⟨v, w', I', hrun, hi.setT (vr_one hv) e3⟩
  · cases e1

/-! zero values -/
theorem vsEq_append : ∀ {a b c : List Value}, vsEq (a ++ b) c = true → ∃ c₁ c₂, c = c₁ ++ c₂ ∧ vsEq a c₁ = true ∧ vsEq b c₂ = true
  | [], b, c, h => ⟨[], c, rfl, rfl, h⟩
  | x :: a, b, [], h => by cases h
  | x :: a, b, y :: c, h => by
    simp only [List.cons_append, vsEq, Bool.and_eq_true] at h
    obtain ⟨c₁, c₂, rfl, h1, h2⟩ := vsEq_append h.2
    exact ⟨y :: c₁, c₂, rfl, by simp [vsEq, h.1, h1], h2⟩

theorem vsEq_one {x : Value} {c : List Value} (h : vsEq [x] c = true) : ∃ y, c = [y] ∧ vEq x y = true := by
  match c, h with
  | [y], h => exact ⟨y, rfl, by simpa [vsEq] using h⟩
  | [], h => cases h
  | _ :: _ :: _, h => simp [vsEq] at h

theorem zero_rep {T D : Nat → Prop} : ∀ {k : Kd} {x : k.T} {l vs : List Value}, zeroK k = some x → zeroVals k = some l → vsEq l vs = true → Rep T D w k x vs := by
  intro k
  induction k with
  | pair a b iha ihb =>
    intro x l vs hx hl hv
    obtain ⟨xa, h1, hx⟩ := bnd_eq hx
    obtain ⟨xb, h2, hx⟩ := bnd_eq hx
    obtain ⟨la, h3, hl⟩ := bnd_eq hl
    obtain ⟨lb, h4, hl⟩ := bnd_eq hl
    cases hx; cases hl
    obtain ⟨c, d, rfl, h5, h6⟩ := vsEq_append hv
    simp only [Rep]
    exact ⟨c, d, rfl, by rw [← vsEq_length h5, zeroVals_length h3], iha h1 h3 h5, ihb h2 h4 h6⟩
  | int ik =>
    intro x l vs hx hl hv
    cases hx; cases hl
    obtain ⟨y, rfl, h⟩ := vsEq_one hv
    cases y <;> simp [vEq] at h
    simp [Rep, h.1, h.2]
  | bool =>
    intro x l vs hx hl hv
    cases hx; cases hl
    obtain ⟨y, rfl, h⟩ := vsEq_one hv
    cases y <;> simp [vEq] at h
    simp [Rep, h]
  | str =>
    intro x l vs hx hl hv
    cases hx; cases hl
    obtain ⟨y, rfl, h⟩ := vsEq_one hv
    cases y with
    | string s =>
      simp [vEq] at h
      have hs : s = ByteArray.empty := by simpa using h
      subst hs
      simp only [Rep]
      rfl
    | _ => simp [vEq] at h
  | unit =>
    intro x l vs hx hl hv
    cases hl
    cases vs with
    | nil => simp [Rep]
    | cons y r => cases hv
  | sl e =>
    intro x l vs hx hl hv
    cases hx; cases hl
    obtain ⟨y, rfl, h⟩ := vsEq_one hv
    cases y with
    | slice A n c =>
      cases A with
      | none => simp [vEq] at h; simp [Rep, ← h.1]
      | some A => simp [vEq] at h
    | _ => simp [vEq] at h
  | _ => intro x l vs hx hl hv; cases hx

theorem flat_replicate {D : Nat → Prop} {k : Kd} {x : k.T} {zs : List Value} (hr : Rep D D w k x zs) : ∀ n, Flat D w k (List.replicate n x) (List.replicate n zs).flatten
  | 0 => rfl
  | n + 1 => by
    simp only [List.replicate_succ, List.flatten_cons]
    exact ⟨zs, _, rfl, rep_length hr, hr, flat_replicate hr n⟩

theorem range_map_flatten {α : Type} [Inhabited α] (zs : Array α) (s : Nat) (hs : zs.size = s) (n : Nat) : ((Array.range (n * s)).map (fun j => zs[j % s]!)).toList = (List.replicate n zs.toList).flatten := by
  subst hs
  induction n with
  | zero => simp
  | succ n ih =>
    have h1 : (n + 1) * zs.size = zs.size + n * zs.size := by rw [Nat.add_mul, Nat.one_mul, Nat.add_comm]
    simp only [Array.toList_map, Array.toList_range] at ih ⊢
    rw [h1, List.range_add, List.map_append, List.replicate_succ, List.flatten_cons, ← ih]
    congr 1
    · apply List.ext_getElem
      · simp
      · intro i h2 h3
        simp only [List.length_map, List.length_range] at h2
        simp [Nat.mod_eq_of_lt h2, h2]
    · simp [List.map_map, Function.comp_def]

theorem flatten_replicate_add {α : Type} (zs : List α) (m n : Nat) : (List.replicate (m + n) zs).flatten = (List.replicate m zs).flatten ++ (List.replicate n zs).flatten := by
  rw [← List.replicate_append_replicate, List.flatten_append]

theorem make_ok {t : TypeId} {d : Nat} {l c : Int} {z0 : (tyOf P t).ek.T} (h : Inv X I st a w) (hf : (tyOf P t).form = 1) (hl0 : 0 ≤ l) (hlc : l ≤ c) (hr : roomy (Int.toNat c) (tyOf P t).eb = true) (hz0 : zeroK (tyOf P t).ek = some z0)
    (e2 : (st.newObj (d * 1000) ⟨(tyOf P t).ek, List.replicate (Int.toNat l) z0⟩).setT (.one (.hdr (tyOf P t).ek (d * 1000) 0 (Int.toNat l))) (some d) = some st') :
    ∃ v w' I', (Instr.makeSlice t (.int .i64 l) (.int .i64 c)).run P w = .ok v w' ∧ Inv X I' st' (a.put (some d) v) w' := by
  obtain ⟨el, ie, hu, hie, hsz, hpos, hzok, hek, hen, heb⟩ := ty_slice (P := P) (t := t) hf
  rw [← hek] at hzok hsz
  obtain ⟨z, zl, hz, hzv, hzq⟩ := zOk_some hzok
  have hzs : z.cells.size = (tyOf P t).ek.size := zOk_size (by rw [← hz]; exact hzok)
  obtain ⟨hr1, hr2⟩ := roomy_some hr
  have hd := (setT_some e2 d rfl).1
  have hL : d * 1000 < PL := lab0 h hd
  have hb : (ie.bytes : Int) * c ≤ 281474976710656 := by
    have e1 : c = ((Int.toNat c : Nat) : Int) := by omega
    rw [heb] at hr1
    rw [e1, Int.mul_comm]
    rw [← Int.natCast_mul]
    omega
  have hrun := run_make (P := P) w t el ie z hu hie hz .i64 .i64 l c hl0 hlc hb (by omega)
  have hrep : Rep I.D I.D w (tyOf P t).ek z0 z.cells.toList := zero_rep hz0 hzv hzq
  have hks : ie.size = (tyOf P t).ek.size := hsz.symm
  have harr : (madeCells z.cells (Int.toNat c * ie.size)).toList = (List.replicate (Int.toNat l) z.cells.toList).flatten ++ (List.replicate (Int.toNat c - Int.toNat l) z.cells.toList).flatten := by
    rw [← flatten_replicate_add]
    have e1 : Int.toNat l + (Int.toNat c - Int.toNat l) = Int.toNat c := by omega
    rw [e1]
    have e2 : z.cells.size = ie.size := by rw [hzs, hsz]
    have := range_map_flatten z.cells ie.size e2 (Int.toNat c)
    rw [← this]
    unfold madeCells
    rw [e2]
  obtain ⟨I', h1, h2⟩ := h.grown (w' := w.alloc (.cells (madeCells z.cells (Int.toNat c * ie.size)) el)) hL (flat_replicate hrep (Int.toNat l)) harr (et := el) (by rw [size_madeCells, hks]) (by rw [List.length_replicate]; omega) rfl
  simp only [List.length_replicate] at h2
  exact ⟨_, _, I', hrun, h1.setT (vr_one h2) e2⟩

theorem evMakeSlice_ok {t : TypeId} {d : Option Nat} {sl sc : SV} {l c : Value} (h : Inv X I st a w) (hl : VR X.T I w sl l) (hc : VR X.T I w sc c) (e : evMakeSlice (tyOf P t) st d sl sc = some st') :
    ∃ v w' I', (Instr.makeSlice t l c).run P w = .ok v w' ∧ Inv X I' st' (a.put d v) w' := by
  unfold evMakeSlice at e
  split at e
  · rename_i tv1 l' tv2 c'
    split at e
    · rename_i d'
      obtain ⟨hf, e1⟩ := ifB_some e
      simp only [Bool.and_eq_true, beq_iff_eq, decide_eq_true_eq] at hf
      obtain ⟨⟨⟨hf, hl0⟩, hlc⟩, hr⟩ := hf
      obtain ⟨z0, hz0, e2⟩ := bnd_eq e1
      have := vr_int hl; subst this
      have := vr_int hc; subst this
      exact make_ok h hf hl0 hlc hr hz0 e2
    · cases e
  · cases e

end Go.Ev
