/- append, make, slice literals: what the evaluator says of them holds. -/
import Derived.Test.YtgjinkacngkgdaaDoorEvJ
namespace Go.Ev
set_option linter.unusedVariables false
set_option linter.unusedSimpArgs false

variable {X : Cx} {I : It} {st st' : St} {a : Act} {w w' : World} {T : Nat → Prop} {P : Program}

structure AppTy (P : Program) (ts : Array TypeId) (t e : TypeId) (i : TypeInfo) : Prop where
  h0 : ts[0]? = some t
  hu : P.underlying t = some (.slice e)
  hi : P.info? e = some i
  h1 : ∀ u, ts[1]? = some u → ∃ d, P.underlying u = some d ∧ ∀ k, d ≠ .int k

theorem run_app_room {ts : Array TypeId} {t e ty : TypeId} {i : TypeInfo} (h : AppTy P ts t e i) {g o sLen cap n : Nat} {x : Value} {news : List Value} {cur : Array Value} {et : TypeId}
    (hx : (Builtin.lenOf x).run P w = .ok n w) (hn : (Builtin.firstCells i.size n x).run P w = .ok news.toArray w) (h1 : ∀ u ∈ news, u.oneCell' = true) (hroom : sLen + n ≤ cap)
    (hg : w.heap[g]? = some (.cells cur et (0, 0))) (hfit : o + sLen * i.size + news.length ≤ cur.size) :
    (Builtin.append_ ts ty #[.slice (some ⟨g, o, none⟩) sLen cap, x]).run P w =
      .ok (.slice (some ⟨g, o, none⟩) (sLen + n) cap) (w.setRow g (cur.toList.take (o + sLen * i.size) ++ news ++ cur.toList.drop (o + sLen * i.size + news.length)).toArray) := by
  have hst := run_storeCells_at P g (o + sLen * i.size) et news 0 cur w hg (by simpa using hfit) h1
  simp only [Nat.add_zero] at hst
  cases h2 : ts[1]? with
  | none => simp [Builtin.append_, h.h0, h2, run_underlying h.hu, run_size h.hi, hx, hroom, hn, Addr.add_lit, hst]
  | some u =>
    obtain ⟨d, hd, hk⟩ := h.h1 u h2
    have hz : (match d with | .int _ => true | _ => false) = false := by cases d <;> first | rfl | exact absurd rfl (hk _)
    simp [Builtin.append_, h.h0, h2, run_underlying h.hu, run_underlying hd, hz, run_size h.hi, hx, hroom, hn, Addr.add_lit, hst]

theorem run_app_none {ts : Array TypeId} {t e ty : TypeId} {i : TypeInfo} (h : AppTy P ts t e i) {A : Option Addr} {sLen cap : Nat} {x : Value}
    (hx : (Builtin.lenOf x).run P w = .ok 0 w) (hn : (Builtin.firstCells i.size 0 x).run P w = .ok #[] w) (hroom : sLen ≤ cap) :
    (Builtin.append_ ts ty #[.slice A sLen cap, x]).run P w = .ok (.slice A sLen cap) w := by
  have hs : ∀ ad : Addr, (storeCells ad []).run P w = .ok () w := fun ad => rfl
  cases h2 : ts[1]? with
  | none => cases A <;> simp [Builtin.append_, h.h0, h2, run_underlying h.hu, run_size h.hi, hx, hroom, hn, hs]
  | some u =>
    obtain ⟨d, hd, hk⟩ := h.h1 u h2
    have hz : (match d with | .int _ => true | _ => false) = false := by cases d <;> first | rfl | exact absurd rfl (hk _)
    cases A <;> simp [Builtin.append_, h.h0, h2, run_underlying h.hu, run_underlying hd, hz, run_size h.hi, hx, hroom, hn, hs]

theorem run_app_grow {ts : Array TypeId} {t e ty : TypeId} {i : TypeInfo} (h : AppTy P ts t e i) {z : Value} (hz : i.zero = some z) {A : Option Addr} {sLen cap n : Nat} {x : Value} {olds news : List Value}
    (hx : (Builtin.lenOf x).run P w = .ok n w) (hn : (Builtin.firstCells i.size n x).run P w.drew = .ok news.toArray w.drew)
    (ho : (Builtin.firstCells i.size sLen (.slice A sLen cap)).run P w.drew = .ok olds.toArray w.drew) (hg : cap < sLen + n) (h63 : sLen + n ≤ 9223372036854775807) (hb : (sLen + n) * i.bytes ≤ 140737488355328) :
    (Builtin.append_ ts ty #[.slice A sLen cap, x]).run P w =
      .ok (.slice (some ⟨w.heap.size, 0, none⟩) (sLen + n) (grownCap w (sLen + n) cap e))
        (w.drew.alloc (.cells (olds.toArray ++ news.toArray ++ Builtin.zeroCells z.cells (grownCap w (sLen + n) cap e - (sLen + n))) e)) := by
  have hn' : ¬ (sLen + n ≤ cap) := by omega
  have hfit := growslice_fits hg hb
  have h63' : ¬ (9223372036854775807 < ((sLen : Int) + (n : Int))) := by omega
  have h48' : ¬ (281474976710656 < Builtin.nextslicecap (sLen + n) cap * i.bytes) := by omega
  have hti := h.hi
  cases h2 : ts[1]? with
  | none =>
    simp [Builtin.append_, h.h0, h2, run_underlying h.hu, run_size h.hi, typeInfo, zeroValue, hti, hz, hx, hn', h63', h48', Question.forced, hn, ho, newRow, grownCap]
    congr 2
    apply Array.ext'
    simp [List.append_assoc]
  | some u =>
    obtain ⟨d, hd, hk⟩ := h.h1 u h2
    have hzz : (match d with | .int _ => true | _ => false) = false := by cases d <;> first | rfl | exact absurd rfl (hk _)
    simp [Builtin.append_, h.h0, h2, run_underlying h.hu, run_underlying hd, hzz, run_size h.hi, typeInfo, zeroValue, hti, hz, hx, hn', h63', h48', Question.forced, hn, ho, newRow, grownCap]
    congr 2
    apply Array.ext'
    simp [List.append_assoc]

theorem zOk_some {k : Kd} {z : Option Value} (h : zOk k z = true) : ∃ v l, z = some v ∧ zeroVals k = some l ∧ vsEq l v.cells.toList = true := by
  unfold zOk at h
  cases e1 : zeroVals k with
  | none => simp [e1] at h
  | some l =>
    cases z with
    | none => simp [e1] at h
    | some v => exact ⟨v, l, rfl, rfl, by simpa [e1] using h⟩

theorem vsEq_length : ∀ {a b : List Value}, vsEq a b = true → a.length = b.length
  | [], [], _ => rfl
  | x :: a, y :: b, h => by
    simp only [vsEq, Bool.and_eq_true] at h
    simp [vsEq_length h.2]
  | [], _ :: _, h => by cases h
  | _ :: _, [], h => by cases h

theorem zeroVals_length : ∀ {k : Kd} {l : List Value}, zeroVals k = some l → l.length = k.size := by
  intro k
  induction k with
  | pair a b iha ihb =>
    intro l h
    obtain ⟨x, hx, h⟩ := bnd_eq h
    obtain ⟨y, hy, h⟩ := bnd_eq h
    cases h
    simp [iha hx, ihb hy, Kd.size]
  | _ => intro l h; cases h <;> rfl

theorem zOk_size {k : Kd} {v : Value} (h : zOk k (some v) = true) : v.cells.size = k.size := by
  obtain ⟨v', l, e, h1, h2⟩ := zOk_some h
  cases e
  rw [← zeroVals_length h1, vsEq_length h2]
  simp

/-- the two lists that a grown slice is made of -/
theorem grown_arr {cs : List Value} {z : Value} {n need cap size : Nat} (hz : z.cells.size = size) (hl : cs.length = need * size) (hc : need ≤ cap) :
    (cs.toArray ++ Builtin.zeroCells z.cells (cap - need)).toList = cs ++ (Builtin.zeroCells z.cells (cap - need)).toList ∧ (cs.toArray ++ Builtin.zeroCells z.cells (cap - need)).size = cap * size := by
  refine ⟨by simp, ?_⟩
  simp only [Array.size_append, List.size_toArray, size_zeroCells, hz, hl, ← Nat.add_mul]
  congr 1
  omega

theorem roomy_some {n eb : Nat} (h : roomy n eb = true) : n * eb ≤ 140737488355328 ∧ n ≤ 9223372036854775807 := by
  simpa [roomy] using h

theorem cut_cells (cur news : List Value) (p : Nat) (h : p + news.length ≤ cur.length) :
    (∀ j v, news[j]? = some v → (cur.take p ++ news ++ cur.drop (p + news.length))[p + j]? = some v) ∧
    (∀ j, j < p → (cur.take p ++ news ++ cur.drop (p + news.length))[j]? = cur[j]?) ∧ (cur.take p ++ news ++ cur.drop (p + news.length)).length = cur.length := by
  have hp : (cur.take p).length = p := by simp; omega
  refine ⟨fun j v hj => ?_, fun j hj => ?_, by simp; omega⟩
  · have hl : j < news.length := by
      rcases Nat.lt_or_ge j news.length with h' | h'
      · exact h'
      · rw [List.getElem?_eq_none h'] at hj; cases hj
    rw [List.append_assoc, List.getElem?_append_right (by omega), hp, Nat.add_sub_cancel_left, List.getElem?_append_left hl]
    exact hj
  · rw [List.append_assoc, List.getElem?_append_left (by omega), List.getElem?_take, if_pos hj]

theorem shp_setRow {g : Nat} {cur cs : Array Value} {et : TypeId} {fz : Nat × Nat} (hg : w.heap[g]? = some (.cells cur et fz)) (hs : cs.size = cur.size) :
    Shp w (w.setRow g cs) ∧ (∀ b, b < w.heap.size → b ≠ g → Same w (w.setRow g cs) b) := by
  refine ⟨⟨by simp, fun b arr et' fz' e => ?_, rfl, rfl, rfl⟩, fun b _ hne => setRow_other w g b cs hne⟩
  by_cases hb : b = g
  · subst hb
    rw [hg] at e; cases e
    exact ⟨cs, setRow_heap w b _ cs _ _ hg, hs⟩
  · exact ⟨arr, by rw [setRow_other w g b cs hb]; exact e, rfl⟩

/-- a block is written that nobody of ours knows -/
theorem Inv.writeFree (h : Inv X I st a w) (g : Nat) (hs : Shp w w') (hk : ∀ b, b < w.heap.size → b ≠ g → Same w w' b) (hd : ¬ I.D g) (ht : ¬ X.T g) (hw : X.w0.heap.size ≤ g ∨ X.Mv g ∨ X.Mm g)
    (hS : ∀ l o y, aget st.s l = some o → I.β l ≠ some (g, y)) (hB : ∀ B x, aget st.b B = some x → I.γ B ≠ g) : Inv X I st a w' := by
  have kp : ∀ b', b' < w.heap.size → b' ≠ g → Keep w w' b' := fun b' hl hne => (hk b' hl hne).keep hl
  have hc0 := h.keeps g hs hk hd ht
  refine ⟨h.wld.step g hs hk hw, h.n, h.nb, h.df, fun i v q => (h.t i v q).mono hc0, ?_, h.sd, ?_, h.bd, h.sb⟩
  · intro l o1 q
    obtain ⟨h1, h2, h3⟩ := h.s l o1 q
    exact ⟨⟨fun b' y q' => (h1.own b' y q').tr hs.1 id, h1.new, h1.old, h1.fix⟩, h2.tr (fun b' hd' hl => ⟨hd', kp b' hl fun q' => hd (q' ▸ hd')⟩) (fun b' y q' => kp b' (h1.own b' y q').lt fun q'' => hS l o1 y q (q'' ▸ q')), h3⟩
  · intro B y q
    obtain ⟨h1, vs, ha, hcs, hr, hl⟩ := h.b B y q
    exact ⟨⟨h1.own.tr hs.1 id, h1.new, h1.old, h1.fix⟩, vs, ha.mono fun c v _ _ => hc0 c v, hcs.keep (kp _ h1.own.lt (hB B y q)), hr.shp hs, hl⟩

/-- 'append' to an object of ours -/
theorem app_hdr {ts : Array TypeId} {t e ty : TypeId} {i : TypeInfo} {z : Value} (ht : AppTy P ts t e i) (hz : i.zero = some z) {o : SObj} {L off len : Nat} {s x : Value} {xs : List o.k.T}
    (hks : i.size = o.k.size) (hzs : z.cells.size = o.k.size) (h : Inv X I st a w) (ho : aget st.s L = some o) (hL : L < PL) (hs : CellRel X.T I w (.hdr o.k L off len) s) (hx : SlRel (P := P) I.D w o.k xs o.k.size x)
    (hr : roomy (len + xs.length) i.bytes = true) :
    ∃ v w' I', (Builtin.append_ ts ty #[s, x]).run P w = .ok v w' ∧ Inv X I' (st.newObj L ⟨o.k, seg o.l off len ++ xs⟩) a w' ∧ CellRel X.T I' w' (.hdr o.k L 0 (len + xs.length)) v := by
  obtain ⟨hlab, hobj, hln⟩ := h.s L o ho
  obtain ⟨A, c, rfl, hlc, hol, hA⟩ := hs
  obtain ⟨hxl, news, hnews, hfc⟩ := hx
  obtain ⟨hr1, hr2⟩ := roomy_some hr
  have hslen : (seg o.l off len).length = len := seg_length _ _ _ (by omega)
  have hlen : (seg o.l off len ++ xs).length = len + xs.length := by simp [hslen]
  rw [← hks] at hfc
  rcases Nat.lt_or_ge c (len + xs.length) with hgrow | hroom
  · -- a new row
    have hold : ∃ olds, Flat I.D w o.k (seg o.l off len) olds ∧ (Builtin.firstCells i.size len (.slice A len c)).run P w.drew = .ok olds.toArray w.drew := by
      rcases hA with hA | ⟨b, base, hβ, rfl, hroom⟩
      · have h0 : len = 0 := by omega
        subst h0
        refine ⟨[], by simp [seg, Flat], ?_⟩
        cases A <;> simp [Builtin.firstCells, loadCells, loadCellsFrom]
      · rw [hβ] at hobj
        obtain ⟨olds, hf, hc⟩ := obj_flat (obj_seg (off := off) (n := len) hobj)
        refine ⟨olds, hf, ?_⟩
        exact run_firstCells_some (P := P) w.drew i.size len ⟨b, base + off * o.k.size, none⟩ len c olds (by rw [hf.length, hslen, hks]) (fun j v hj => by rw [Addr.add_lit]; exact hc j v hj)
    obtain ⟨olds, hof, hor⟩ := hold
    have hrun := run_app_grow (P := P) (w := w) (ty := ty) ht hz hxl (hfc w.drew rfl) hor hgrow hr2 hr1
    have hfl : Flat I.D w o.k (seg o.l off len ++ xs) (olds ++ news) := hof.append hnews
    have hge := grownCap_ge w (len + xs.length) c e
    obtain ⟨e1, e2⟩ := grown_arr (n := 0) (cs := olds ++ news) (z := z) (need := len + xs.length) (cap := grownCap w (len + xs.length) c e) (size := o.k.size) hzs (by rw [hfl.length, hlen]) hge
    obtain ⟨I', h1, h2⟩ := h.grown (w' := w.drew.alloc (.cells (olds.toArray ++ news.toArray ++ Builtin.zeroCells z.cells (grownCap w (len + xs.length) c e - (len + xs.length))) e)) hL hfl
      (arr := olds.toArray ++ news.toArray ++ Builtin.zeroCells z.cells (grownCap w (len + xs.length) c e - (len + xs.length))) (et := e) (by rw [← e1]; simp) (by rw [← e2]; simp) (by rw [hlen]; exact hge) rfl
    rw [hlen] at h2
    exact ⟨_, _, I', hrun, h1, h2⟩
  · -- in place
    rcases hA with hA | ⟨b, base, hβ, rfl, hrm⟩
    · have h0 : len = 0 := by omega
      have hx0 : xs = [] := List.eq_nil_of_length_eq_zero (by omega)
      subst h0
      subst hx0
      simp only [Flat] at hnews
      subst hnews
      refine ⟨_, w, _, run_app_none ht hxl (hfc w rfl) (Nat.zero_le _), h.newObj none ⟨by simp, by simp, by simp, fun hp => absurd hp (by omega)⟩ ?_ (by simp) (by simp), ?_⟩
      · intro i x hx; simp [seg] at hx
      · exact ⟨A, c, rfl, by simp, by simp, .inl hA⟩
    · obtain ⟨cur, et, hg, hsz⟩ := hrm
      rw [hβ] at hobj
      have hnl : news.length = xs.length * o.k.size := hnews.length
      have hmul : (off + c) * o.k.size = off * o.k.size + c * o.k.size := Nat.add_mul _ _ _
      have hmul2 : (len + xs.length) * o.k.size = len * o.k.size + xs.length * o.k.size := Nat.add_mul _ _ _
      have hmul3 : (len + xs.length) * o.k.size ≤ c * o.k.size := Nat.mul_le_mul_right _ hroom
      have hfit : base + off * o.k.size + len * i.size + news.length ≤ cur.size := by rw [hks, hnl]; omega
      have hrun := run_app_room (P := P) (w := w) (ty := ty) ht hxl (hfc w rfl) hnews.one hroom hg hfit
      rw [hks] at hrun hfit
      obtain ⟨c1, c2, c3⟩ := cut_cells cur.toList news (base + off * o.k.size + len * o.k.size) (by simpa using hfit)
      obtain ⟨s1, s2⟩ := shp_setRow (w := w) (cs := (cur.toList.take (base + off * o.k.size + len * o.k.size) ++ news ++ cur.toList.drop (base + off * o.k.size + len * o.k.size + news.length)).toArray) hg (by simpa using c3)
      have hgg := setRow_heap w b cur (cur.toList.take (base + off * o.k.size + len * o.k.size) ++ news ++ cur.toList.drop (base + off * o.k.size + len * o.k.size + news.length)).toArray et (0, 0) hg
      have hown := hlab.own b base hβ
      -- the object as it will stand
      have hfo : ObjRel I.D (w.setRow b (cur.toList.take (base + off * o.k.size + len * o.k.size) ++ news ++ cur.toList.drop (base + off * o.k.size + len * o.k.size + news.length)).toArray)
          (some (b, base + off * o.k.size)) ⟨o.k, seg o.l off len ++ xs⟩ := by
        obtain ⟨olds, hof, hoc⟩ := obj_flat (obj_seg (off := off) (n := len) hobj)
        have kp : ∀ b', I.D b' → b' < w.heap.size → I.D b' ∧ Keep w _ b' := fun b' hb' hl => ⟨hb', (s2 b' hl fun q => hown.nd (q ▸ hb')).keep hl⟩
        refine flat_obj ((hof.tr kp).append (hnews.tr kp)) (CellsAt.append ?_ ?_)
        · refine cells_new hgg fun j v hj => ?_
          have hjl : j < len * o.k.size := by
            have := hof.length
            rw [hslen] at this
            rcases Nat.lt_or_ge j olds.length with h' | h'
            · omega
            · rw [List.getElem?_eq_none h'] at hj; cases hj
          have h1 := hoc j v hj
          simp only [World.cell?, hg] at h1
          simp only [List.getElem?_toArray]
          rw [c2 _ (by omega)]
          simpa using h1
        · refine cells_new hgg fun j v hj => ?_
          rw [hof.length, hslen]
          simp only [List.getElem?_toArray]
          exact c1 j v hj
      have h0 : Inv X (I.at L (some (b, base + off * o.k.size)) (seg o.l off len ++ xs).length) (st.kill L) a w := h.kill L rfl (fun l hl => ⟨setFn_other _ _ _ _ hl, setFn_other _ _ _ _ hl⟩) rfl
      have h1 := h0.writeFree b s1 s2 hown.nd hown.nt ((hlab.new b base hβ hL).imp id .inl) (fun l o' y ho' q => by
          rw [St.kill_s] at ho'
          split at ho'
          · cases ho'
          · rename_i hne
            have hne' : l ≠ L := fun q => hne q.symm
            simp only [It.at, setFn_other _ _ _ _ hne'] at q
            exact hne' (h.sd l L o' o b y base ho' ho q hβ)) (fun B x hx => by
          rw [St.kill_b] at hx
          cases hq : aget st.b B with
          | none => rw [hq] at hx; cases hx
          | some y0 => exact h.sb L o B y0 b base ho hq hβ)
      have h2 := h1.addS (L := L) (o := ⟨o.k, seg o.l off len ++ xs⟩)
        (by
          simp only [It.at, setFn_same]
          exact ⟨fun b' y q => by cases q; exact hown.tr s1.1 id, fun b' y q hp => by cases q; exact hlab.new b base hβ hp, fun b' y q hp => absurd hp (by omega), fun hp => absurd hp (by omega)⟩)
        (by simp only [It.at, setFn_same]; exact hfo) (by simp [It.at, setFn_same])
        (fun l o' b' x x' hne ho' q q' => by
          rw [St.kill_s] at ho'
          simp only [It.at, setFn_same, setFn_other _ _ _ _ hne] at q q'
          cases q'
          split at ho'
          · cases ho'
          · exact hne (h.sd l L o' o b x base ho' ho q hβ))
        (fun B x b' y hx q => by
          simp only [It.at, setFn_same] at q
          cases q
          rw [St.kill_b] at hx
          cases hq : aget st.b B with
          | none => rw [hq] at hx; cases hx
          | some y0 => exact h.sb L o B y0 b base ho hq hβ)
      refine ⟨_, _, I.at L (some (b, base + off * o.k.size)) (seg o.l off len ++ xs).length, hrun, ?_, ?_⟩
      · exact h2
      · exact ⟨_, c, rfl, hroom, by simp [It.at, setFn_same, hslen], .inr ⟨b, base + off * o.k.size, by simp [It.at, setFn_same], by simp, (Room.shp ⟨cur, et, hg, by rw [Nat.zero_add]; omega⟩ s1)⟩⟩

end Go.Ev
