/- New objects: append, make, slice literals. -/
import Derived.Test.YtgjinkacngkgdaaDoorEvI
import Derived.Laws.AppendOwn
import Derived.Laws.MakeOwn
import Derived.Great.BuildSlice
namespace Go.Ev
set_option linter.unusedVariables false
set_option linter.unusedSimpArgs false

variable {X : Cx} {I : It} {st st' : St} {a : Act} {w w' : World} {T : Nat → Prop} {P : Program}

/-- the cells of a row of elements -/
def Flat (D : Nat → Prop) (w : World) (k : Kd) : List k.T → List Value → Prop
  | [], cs => cs = []
  | x :: xs, cs => ∃ c d, cs = c ++ d ∧ c.length = k.size ∧ Rep D D w k x c ∧ Flat D w k xs d

theorem Flat.length {D : Nat → Prop} {k : Kd} : ∀ {l : List k.T} {cs : List Value}, Flat D w k l cs → cs.length = l.length * k.size
  | [], cs, h => by simp only [Flat] at h; simp [h]
  | x :: xs, cs, h => by
    obtain ⟨c, d, rfl, hl, _, h2⟩ := h
    simp [hl, h2.length, Nat.add_mul, Nat.add_comm]

theorem Flat.append {D : Nat → Prop} {k : Kd} : ∀ {l l' : List k.T} {cs cs' : List Value}, Flat D w k l cs → Flat D w k l' cs' → Flat D w k (l ++ l') (cs ++ cs')
  | [], _, cs, _, h, h' => by simp only [Flat] at h; subst h; exact h'
  | x :: xs, _, cs, _, h, h' => by
    obtain ⟨c, d, rfl, hl, hr, h2⟩ := h
    exact ⟨c, _, by simp, hl, hr, h2.append h'⟩

theorem Flat.tr {D D' : Nat → Prop} {k : Kd} (hD : ∀ b, D b → b < w.heap.size → D' b ∧ Keep w w' b) : ∀ {l : List k.T} {cs : List Value}, Flat D w k l cs → Flat D' w' k l cs
  | [], _, h => h
  | x :: xs, _, h => by
    obtain ⟨c, d, rfl, hl, hr, h2⟩ := h
    exact ⟨c, d, rfl, hl, hr.tr hD hD, h2.tr hD⟩

theorem rep_one {T D : Nat → Prop} {w : World} : ∀ {k : Kd} {x : k.T} {cs : List Value}, Rep T D w k x cs → ∀ v ∈ cs, v.oneCell' = true := by
  intro k
  induction k with
  | pair a b iha ihb =>
    intro x cs h v hv
    simp only [Rep] at h
    obtain ⟨c, d, rfl, hl, h1, h2⟩ := h
    rcases List.mem_append.1 hv with hv | hv
    · exact iha h1 v hv
    · exact ihb h2 v hv
  | unit => intro x cs h v hv; simp only [Rep] at h; subst h; cases hv
  | self => intro x cs h; simp [Rep] at h
  | _ =>
    intro x cs h v hv
    obtain ⟨u, rfl⟩ := rep_single rfl h
    simp only [List.mem_singleton] at hv
    subst hv
    exact Rep.one rfl h

theorem Flat.one {D : Nat → Prop} {k : Kd} : ∀ {l : List k.T} {cs : List Value}, Flat D w k l cs → ∀ v ∈ cs, v.oneCell' = true
  | [], cs, h, v, hv => by simp only [Flat] at h; subst h; cases hv
  | x :: xs, cs, h, v, hv => by
    obtain ⟨c, d, rfl, hl, hr, h2⟩ := h
    rcases List.mem_append.1 hv with hv | hv
    · exact rep_one hr v hv
    · exact h2.one v hv

theorem flat_obj {D : Nat → Prop} {k : Kd} {b : Nat} : ∀ {l : List k.T} {cs : List Value} {o : Nat}, Flat D w k l cs → CellsAt w b o cs → ObjRel D w (some (b, o)) ⟨k, l⟩
  | [], cs, o, h, hc => fun i x hx => by simp at hx
  | x :: xs, cs, o, h, hc => by
    obtain ⟨c, d, rfl, hl, hr, h2⟩ := h
    intro i y hy
    cases i with
    | zero =>
      simp only [List.getElem?_cons_zero, Option.some.injEq] at hy
      subst hy
      exact ⟨b, o, c, rfl, hl, hr, by simpa using hc.left⟩
    | succ i =>
      have hc' := hc.right
      rw [hl] at hc'
      obtain ⟨b', o', ecs, e1, e2, e3, e4⟩ := flat_obj h2 hc' i y (by simpa using hy)
      cases e1
      refine ⟨b, o, ecs, rfl, e2, e3, ?_⟩
      have : o + k.size + i * k.size = o + (i + 1) * k.size := by rw [Nat.add_mul, Nat.one_mul]; omega
      simp only at e4 ⊢
      rw [← this]; exact e4

theorem CellsAt.append {b o : Nat} {c d : List Value} (h1 : CellsAt w b o c) (h2 : CellsAt w b (o + c.length) d) : CellsAt w b o (c ++ d) := by
  intro j v hj
  rcases Nat.lt_or_ge j c.length with h | h
  · rw [List.getElem?_append_left h] at hj; exact h1 j v hj
  · rw [List.getElem?_append_right h] at hj
    have := h2 (j - c.length) v hj
    have e : o + c.length + (j - c.length) = o + j := by omega
    rwa [e] at this

theorem cells_flat {D : Nat → Prop} {k : Kd} {b : Nat} : ∀ {l : List k.T} {o : Nat}, (∀ (i : Nat) (x : k.T), l[i]? = some x → ∃ ecs, ecs.length = k.size ∧ Rep D D w k x ecs ∧ CellsAt w b (o + i * k.size) ecs) → ∃ cs, Flat D w k l cs ∧ CellsAt w b o cs
  | [], o, h => ⟨[], rfl, fun j v hj => by simp at hj⟩
  | x :: xs, o, h => by
    obtain ⟨ecs, hl, hr, hc⟩ := h 0 x rfl
    obtain ⟨cs, h1, h2⟩ := cells_flat (l := xs) (o := o + k.size) (fun i y hy => by
      obtain ⟨ecs, hl, hr, hc⟩ := h (i + 1) y (by simpa using hy)
      refine ⟨ecs, hl, hr, ?_⟩
      have : o + (i + 1) * k.size = o + k.size + i * k.size := by rw [Nat.add_mul, Nat.one_mul]; omega
      rw [← this]; exact hc)
    have hc : CellsAt w b o ecs := by simpa using hc
    exact ⟨ecs ++ cs, ⟨ecs, cs, rfl, hl, hr, h1⟩, hc.append (by rw [hl]; exact h2)⟩

theorem obj_flat {D : Nat → Prop} {k : Kd} {b o : Nat} {l : List k.T} (h : ObjRel D w (some (b, o)) ⟨k, l⟩) : ∃ cs, Flat D w k l cs ∧ CellsAt w b o cs :=
  cells_flat fun i x hx => by
    obtain ⟨b', o', ecs, e1, e2, e3, e4⟩ := h i x hx
    cases e1
    exact ⟨ecs, e2, e3, e4⟩

theorem obj_nil {D : Nat → Prop} {k : Kd} {bo : Option (Nat × Nat)} : ObjRel D w bo ⟨k, []⟩ := fun i x hx => by simp at hx

theorem obj_seg {D : Nat → Prop} {k : Kd} {b o off n : Nat} {l : List k.T} (h : ObjRel D w (some (b, o)) ⟨k, l⟩) : ObjRel D w (some (b, o + off * k.size)) ⟨k, seg l off n⟩ := by
  intro i x hx
  obtain ⟨hi, hx⟩ := seg_get hx
  obtain ⟨b', o', ecs, e1, e2, e3, e4⟩ := h _ x hx
  cases e1
  refine ⟨b, _, ecs, rfl, e2, e3, ?_⟩
  simp only at e4 ⊢
  have : o + off * k.size + i * k.size = o + (off + i) * k.size := by rw [Nat.add_mul, Nat.add_assoc]
  rw [this]; exact e4

theorem shp_push {o : Obj} (h : w'.heap = w.heap.push o) (hos : w'.os = w.os ∧ w'.output = w.output ∧ w'.tape = w.tape := by exact ⟨rfl, rfl, rfl⟩) : Shp w w' ∧ (∀ b, b < w.heap.size → Same w w' b) ∧ w'.heap.size = w.heap.size + 1 ∧ w'.heap[w.heap.size]? = some o := by
  have hold : ∀ b, b < w.heap.size → w'.heap[b]? = w.heap[b]? := by
    intro b hb
    rw [h, Array.getElem?_push]
    rw [if_neg (by omega)]
  refine ⟨⟨by rw [h]; simp, fun b arr et fz e => ?_, hos.1, hos.2⟩, hold, by rw [h]; simp, by rw [h]; simp⟩
  have hb : b < w.heap.size := by
    rcases Nat.lt_or_ge b w.heap.size with h' | h'
    · exact h'
    · rw [Array.getElem?_eq_none h'] at e; cases e
  exact ⟨arr, by rw [hold b hb]; exact e, rfl⟩

theorem cells_new {arr : Array Value} {et : TypeId} {b : Nat} (h : w.heap[b]? = some (.cells arr et (0, 0))) {cs : List Value} {o : Nat} (hc : ∀ j v, cs[j]? = some v → arr[o + j]? = some v) : CellsAt w b o cs := by
  intro j v hj
  simp [World.cell?, h, hc j v hj]

/-- a new row of cells becomes the object at L -/
theorem Inv.grown (h : Inv X I st a w) {L : Nat} (hL : L < PL) {k : Kd} {l : List k.T} {cs rest : List Value} {arr : Array Value} {et : TypeId} {cap : Nat} (hf : Flat I.D w k l cs)
    (harr : arr.toList = cs ++ rest) (hcap : arr.size = cap * k.size) (hn : l.length ≤ cap) (hw : w'.heap = w.heap.push (.cells arr et)) (hos : w'.os = w.os ∧ w'.output = w.output ∧ w'.tape = w.tape := by exact ⟨rfl, rfl, rfl⟩) :
    ∃ I', Inv X I' (st.newObj L ⟨k, l⟩) a w' ∧ CellRel X.T I' w' (.hdr k L 0 l.length) (.slice (some ⟨w.heap.size, 0, none⟩) l.length cap) := by
  obtain ⟨hs, hold, hsz, hnew⟩ := shp_push hw hos
  have h1 : Inv X I st a w' := h.alloc hs hold
  have hnd : ¬ I.D w.heap.size := fun hd => by have := h.wld.dlt _ hd; omega
  have hnt : ¬ X.T w.heap.size := fun ht => by have := (X.hT _ ht).1; have := h.wld.shp.1; omega
  have hfl : Flat I.D w' k l cs := hf.tr fun b hb hl => ⟨hb, (hold b hl).keep hl⟩
  have hc : CellsAt w' w.heap.size 0 cs := cells_new hnew fun j v hj => by
    rw [Nat.zero_add, ← Array.getElem?_toList, harr, List.getElem?_append_left]
    · exact hj
    · rcases Nat.lt_or_ge j cs.length with h' | h'
      · exact h'
      · rw [List.getElem?_eq_none h'] at hj; cases hj
  refine ⟨_, h1.newObj (some (w.heap.size, 0)) ⟨fun b o e => ?_, fun b o e _ => ?_, fun b o e hp => absurd hp (by omega), fun hp => absurd hp (by omega)⟩ (flat_obj hfl hc) ?_ ?_, ?_⟩
  · cases e; exact ⟨by omega, hnd, hnt⟩
  · cases e; exact .inl h.wld.shp.1
  · intro l' o' b x x' hne ho' e e'
    cases e'
    have := ((h.s l' o' ho').1.own _ _ e).lt
    omega
  · intro B x b y hx e
    cases e
    have := (h.b B x hx).1.own.lt
    omega
  · refine ⟨_, cap, rfl, hn, by simp [It.at, setFn_same], .inr ⟨w.heap.size, 0, by simp [It.at, setFn_same], by simp, arr, et, hnew, by simp [hcap]⟩⟩

/-- what 'append' takes from its second argument -/
def SlRel (D : Nat → Prop) (w : World) (k : Kd) (xs : List k.T) (size : Nat) (v : Value) : Prop :=
  (Builtin.lenOf v).run P w = .ok xs.length w ∧ ∃ cs, Flat D w k xs cs ∧ ∀ w', w'.heap = w.heap → (Builtin.firstCells size xs.length v).run P w' = .ok cs.toArray w'

theorem sl_slice {D : Nat → Prop} {k : Kd} {xs : List k.T} {A : Option Addr} {c : Nat} (h : ∀ (i : Nat) (x : k.T), xs[i]? = some x → ∃ b o ecs, A = some ⟨b, o, none⟩ ∧ ecs.length = k.size ∧ Rep D D w k x ecs ∧ CellsAt w b (o + i * k.size) ecs) :
    SlRel (P := P) D w k xs k.size (.slice A xs.length c) := by
  refine ⟨rfl, ?_⟩
  cases A with
  | none =>
    have : xs = [] := by
      cases xs with
      | nil => rfl
      | cons x xs => obtain ⟨b, o, ecs, e, _⟩ := h 0 x rfl; cases e
    subst this
    exact ⟨[], rfl, fun w' _ => rfl⟩
  | some A =>
    cases hx : xs with
    | nil =>
      refine ⟨[], rfl, fun w' _ => ?_⟩
      simp [Builtin.firstCells, loadCells, loadCellsFrom]
    | cons x0 xs0 =>
      obtain ⟨b, o, ecs, e, _⟩ := h 0 x0 (by rw [hx]; rfl)
      cases e
      obtain ⟨cs, h1, h2⟩ := cells_flat (D := D) (w := w) (b := b) (o := o) (l := xs) (fun i x hx => by
        obtain ⟨b', o', ecs, e, h⟩ := h i x hx
        cases e
        exact ⟨ecs, h⟩)
      rw [← hx]
      refine ⟨cs, h1, fun w' hw' => ?_⟩
      exact run_firstCells_some (P := P) w' k.size xs.length ⟨b, o, none⟩ xs.length c cs h1.length (fun j v hj => by
        rw [Addr.add_lit]
        have := h2 j v hj
        simpa [World.cell?, hw'] using this)

theorem natsOf_get : ∀ (l : List UInt8) (i : Nat), (natsOf l)[i]? = (l[i]?).map fun b => (b.toNat : Int)
  | [], i => by simp [natsOf]
  | b :: r, 0 => rfl
  | b :: r, i + 1 => by simpa [natsOf] using natsOf_get r i
theorem natsOf_length : ∀ (l : List UInt8), (natsOf l).length = l.length
  | [] => rfl
  | b :: r => by simp [natsOf, natsOf_length r]

theorem flat_nats {D : Nat → Prop} : ∀ (l : List UInt8), Flat D w (.int .u8) (natsOf l) (l.map fun b => Value.int .u8 b.toNat)
  | [] => rfl
  | b :: r => ⟨[.int .u8 b.toNat], _, rfl, rfl, by simp [Rep], flat_nats r⟩

theorem sl_string {D : Nat → Prop} (s : List UInt8) : SlRel (P := P) D w (.int .u8) (natsOf s) 1 (.string ⟨s.toArray⟩) := by
  refine ⟨?_, _, flat_nats s, fun w' _ => ?_⟩
  · rw [natsOf_length]; rfl
  · have : (ByteArray.mk s.toArray).extract 0 (natsOf s).length = ByteArray.mk s.toArray := by
      rw [bytes_extract, natsOf_length]; simp [seg]
    simp only [Builtin.firstCells, this]
    simp

theorem elemsOf_ok {k : Kd} {sx : SV} {x : Value} {xs : List k.T} (h : Inv X I st a w) (hx : VR X.T I w sx x) (e : elemsOf st k sx = some xs) : SlRel (P := P) I.D w k xs k.size x := by
  unfold elemsOf at e
  split at e
  · rename_i tv ek l
    obtain ⟨rfl, rfl⟩ := asL_some e
    obtain ⟨A, c, rfl, hl, hr⟩ := val_slice hx
    simp only [Rep] at hr
    obtain ⟨A', c', hv, _, hel⟩ := hr
    simp only [List.cons.injEq, Value.slice.injEq, and_true, true_and] at hv
    obtain ⟨rfl, rfl⟩ := hv
    exact sl_slice fun i x hx => by
      obtain ⟨b, o, ecs, e1, _, _, e2, e3, e4⟩ := hel i x hx
      exact ⟨b, o, ecs, e1, e2, e3, e4⟩
  · rename_i tv ek l
    obtain ⟨rfl, rfl⟩ := asL_some e
    obtain ⟨⟨A, rfl⟩, hr⟩ := hx
    simp only [Rep] at hr
    obtain ⟨A', c', hv, _, hel⟩ := hr
    simp only [List.cons.injEq, Value.slice.injEq, and_true, true_and] at hv
    obtain ⟨rfl, rfl⟩ := hv
    exact sl_slice fun i x hx => by
      obtain ⟨b, o, ecs, e1, _, _, e2, e3, e4⟩ := hel i x hx
      exact ⟨b, o, ecs, e1, e2, e3, e4⟩
  · cases e
    have := vr_nl hx; subst this
    exact ⟨rfl, [], rfl, fun w' _ => rfl⟩
  · rename_i ek L off len
    cases ho : aget st.s L with
    | none => rw [ho] at e; cases e
    | some o =>
      rw [ho] at e
      obtain ⟨hk, e⟩ := ifB_some e
      simp only [decide_eq_true_eq] at hk
      subst hk
      obtain ⟨l, hl, e⟩ := bnd_eq e
      cases e
      obtain ⟨ek', rfl⟩ := asL_some hl
      subst ek'
      rw [castL_rfl]
      obtain ⟨_, hobj, hn⟩ := h.s L o ho
      obtain ⟨A, c, rfl, hlc, hol, hA⟩ := hx
      have hlen : (seg o.l off len).length = len := seg_length _ _ _ (by omega)
      have := sl_slice (P := P) (D := I.D) (w := w) (k := o.k) (xs := seg o.l off len) (A := A) (c := c) (fun i x hx => by
        obtain ⟨hi, hx⟩ := seg_get hx
        rcases hA with rfl | ⟨b, base, hβ, rfl, _⟩
        · omega
        · obtain ⟨b', o', ecs, e1, e2, e3, e4⟩ := hobj _ x hx
          rw [hβ] at e1; cases e1
          refine ⟨b, _, ecs, rfl, e2, e3, ?_⟩
          have : base + off * o.k.size + i * o.k.size = base + (off + i) * o.k.size := by rw [Nat.add_mul, Nat.add_assoc]
          rw [this]; exact e4)
      rwa [hlen] at this
  · rename_i tv s
    obtain ⟨rfl, rfl⟩ := asL_some e
    rw [castL_rfl]
    have := vr_str hx; subst this
    exact sl_string s
  · cases e

end Go.Ev
