/- Stores, boxes, literals, conversions: what the evaluator says of them holds. -/
import Derived.Test.YtgjinkacngkgdaaDoorEvN
namespace Go.Ev
set_option linter.unusedVariables false
set_option linter.unusedSimpArgs false

variable {X : Cx} {I : It} {st st' : St} {a : Act} {w w' : World} {T : Nat → Prop} {P : Program}

theorem cells_of_row {cur : Array Value} {et : TypeId} {fz : Nat × Nat} {b o : Nat} {vs : List Value} (hg : w.heap[b]? = some (.cells cur et fz)) (hc : CellsAt w b o vs) : ∀ j v, vs[j]? = some v → cur.toList[o + j]? = some v := by
  intro j v hj
  have := hc j v hj
  simp only [World.cell?, hg] at this
  simpa using this

theorem row_lt {cur : Array Value} {et : TypeId} {fz : Nat × Nat} {b o : Nat} {vs : List Value} (hg : w.heap[b]? = some (.cells cur et fz)) (hc : CellsAt w b o vs) (hne : vs ≠ []) : o + vs.length ≤ cur.size := by
  have hl : vs.length - 1 < vs.length := by
    cases vs with
    | nil => exact absurd rfl hne
    | cons x r => simp
  have := cells_of_row hg hc _ _ (List.getElem?_eq_getElem hl)
  rcases Nat.lt_or_ge (o + (vs.length - 1)) cur.toList.length with h' | h'
  · simp at h'; omega
  · rw [List.getElem?_eq_none h'] at this; cases this

theorem putAt_cells {cur : List Value} {vs0 vs : List Value} {o off : Nat} (hc : ∀ j v, vs0[j]? = some v → cur[o + j]? = some v) (h0 : off + vs.length ≤ vs0.length) (h1 : o + off + vs.length ≤ cur.length) :
    ∀ j v, (putAt vs0 off vs)[j]? = some v → (putAt cur (o + off) vs)[o + j]? = some v := by
  intro j v hj
  rw [putAt_get _ _ _ _ h0] at hj
  rw [putAt_get _ _ _ _ h1]
  by_cases hr : off ≤ j ∧ j < off + vs.length
  · rw [if_pos hr] at hj
    rw [if_pos (by omega)]
    have : o + j - (o + off) = j - off := by omega
    rw [this]; exact hj
  · rw [if_neg hr] at hj
    rw [if_neg (by omega)]
    exact hc j v hj

theorem setCells_length {cs new : List Cell} {off : Nat} (h : off + new.length ≤ cs.length) : (setCells cs off new).length = cs.length := by
  rw [setCells_eq new cs off h]; simp; omega

theorem evStore_ok {t : TypeId} {sx sv : SV} {x v : Value} (h : Inv X I st a w) (hx : VR X.T I w sx x) (hv : VR X.T I w sv v) (e : evStore (tyOf P t) st sx sv = some st') :
    ∃ w' I', (Instr.storeAt t x v).run P w = .ok () w' ∧ Inv X I' st' a w' := by
  unfold evStore at e
  split at e
  · rename_i B off
    obtain ⟨bx, hb, e1⟩ := bnd_eq e
    obtain ⟨hc, e2⟩ := ifB_some e1
    cases e2
    simp only [Bool.and_eq_true, beq_iff_eq, decide_eq_true_eq] at hc
    obtain ⟨⟨⟨hk, hl⟩, hpos⟩, hfit⟩ := hc
    have hx : x = _ := hx
    subst hx
    obtain ⟨hbok, vs0, ha, hcs, ⟨cur, et, hg, hsz⟩, h1⟩ := h.b B bx hb
    have hvc := sv_cells hv (fun c v hr => hr.one) (by omega)
    have hvl : v.cells.toList.length = (tyOf P t).size := by rw [← hvc.length, hl]
    have hone := all_one hvc (fun c v hr => hr.one)
    have hfit' : off + v.cells.toList.length ≤ vs0.length := by rw [hvl, ← ha.length]; exact hfit
    have hcur : off + v.cells.toList.length ≤ cur.size := by rw [← ha.length] at hfit'; omega
    have hrun := run_storeAt (P := P) (t := t) hk rfl hvl hg hcur hone
    have hcurl : 0 + off + v.cells.toList.length ≤ cur.toList.length := by simpa using hcur
    obtain ⟨s1, s2⟩ := shp_setRow (w := w) (cs := (putAt cur.toList off v.cells.toList).toArray) hg (by have := putAt_length cur.toList v.cells.toList off (by simpa using hcur); simpa using this)
    have hgg := setRow_heap w (I.γ B) cur (putAt cur.toList off v.cells.toList).toArray et (0, 0) hg
    have hkeep := h.keeps (I.γ B) s1 s2 hbok.own.nd hbok.own.nt
    have hlen : off + sv.cells.length ≤ bx.2.length := by rw [hl]; exact hfit
    have hbx : BoxRel X.T I (w.setRow (I.γ B) (putAt cur.toList off v.cells.toList).toArray) (I.γ B) (bx.1, setCells bx.2 off sv.cells) := by
      refine ⟨putAt vs0 off v.cells.toList, ?_, ?_, ?_, ?_⟩
      · exact (ha.mono fun c v _ _ => hkeep c v).setCells (hvc.mono fun c v _ _ => hkeep c v) hlen
      · refine cells_new hgg fun j u hj => ?_
        have := putAt_cells (o := 0) (fun j v hj => cells_of_row hg hcs j v hj) hfit' hcurl j u hj
        simpa using this
      · refine Room.shp ⟨cur, et, hg, ?_⟩ s1
        rw [show (setCells bx.2 off sv.cells).length = bx.2.length from setCells_length hlen]; exact hsz
      · intro hb1; show (setCells bx.2 off sv.cells).length = 1; rw [setCells_length hlen]; exact h1 hb1
    obtain ⟨I', hI', _⟩ := (h.writeB hb s1 s2 hbx).relabels sv.cells (B * 1000 + 500 + off)
    exact ⟨_, I', hrun, hI'⟩
  · rename_i k L i fo
    obtain ⟨hc, e1⟩ : ((!(tyOf P t).ok || !(sv.cells.length == (tyOf P t).size) || (labelsOf sv.cells).contains L) = false) ∧ storeE (tyOf P t) st k L i fo sv (aget st.s L) = some st' := by
      rw [ifB_ite] at e
      split at e
      · cases e
      · rename_i hc; exact ⟨by simpa using hc, e⟩
    simp only [Bool.or_eq_false_iff, Bool.not_eq_false', beq_iff_eq] at hc
    obtain ⟨⟨hk, hl⟩, hnL⟩ := hc
    cases ho : aget st.s L with
    | none => rw [ho] at e1; cases e1
    | some o =>
      rw [ho] at e1
      obtain ⟨u, hu, e2⟩ := bnd_eq e1
      obtain ⟨l, hasl, e3⟩ := bnd_eq e2
      obtain ⟨y, hy, e4⟩ := bnd_eq e3
      obtain ⟨z, hz, e5⟩ := bnd_eq e4
      cases e5
      obtain ⟨ek, rfl⟩ := asL_some hasl
      subst ek
      rw [castL_rfl] at hy
      obtain ⟨b, base, hβ, rfl, cur, et, hg, _⟩ := hx
      obtain ⟨I1, hi1, d1, b1, l1, g1, f1, k1, _, _⟩ := h.freezes (labelsOf sv.cells)
      have hvrep := sealD_ok h hv hu d1 f1
      have hnL' : L ∉ labelsOf sv.cells := by
        intro hm
        have : (labelsOf sv.cells).contains L = true := by simpa using hm
        rw [hnL] at this; cases this
      have ho1 := k1 L o hnL' ho
      obtain ⟨hlab, hobj, hln⟩ := hi1.s L o ho1
      rw [b1] at hlab hobj
      obtain ⟨b', base', ecs, e6, hel, hrep, hcells⟩ := hobj i y hy
      rw [hβ] at e6; cases e6
      rw [hβ] at hlab
      obtain ⟨hfo, hrep'⟩ := putE_ok hz hrep hvrep.cells
      have hown := hlab.own b base rfl
      have hulen : v.cells.toList.length = (tyOf P t).size := by
        rcases Nat.eq_zero_or_pos sv.cells.length with h0 | hp
        · have : u.k.size = v.cells.toList.length := (rep_length hvrep.cells).symm
          cases sv with
          | one c => simp [SV.cells] at h0
          | agg cs => obtain ⟨vs, rfl, hall⟩ := hv; rw [← hl]; simp only [Value.cells]; rw [← hall.length]; rfl
          | _ => cases hu
        · rw [← hl]; exact (sv_cells hv (fun c v hr => hr.one) hp).length.symm
      by_cases hem : ecs = []
      · -- an element without cells
        subst hem
        simp only [List.length_nil, Nat.le_zero, Nat.add_eq_zero_iff] at hfo
        have hv0 : v.cells.toList = [] := List.eq_nil_of_length_eq_zero hfo.2
        have hrun : (Instr.storeAt t (.pointer (some ⟨b, base + i * o.k.size + fo, none⟩)) v).run P w = .ok () w := by
          obtain ⟨ti, td, hti, htd, htsz, _⟩ := tyOf_known P t (.inl hk)
          have hcs : v.cells.size = ti.size := by rw [← htsz, ← hulen]; simp
          simp only [Instr.storeAt, Instr.sureAddr, storeVar, Sem.run_bind, Sem.run_pure, Result.andThen_ok, run_size hti, hcs, hv0, storeCells]
          simp
        refine ⟨w, I1, hrun, hi1.updS ho1 ?_ (by simp [castL_rfl])⟩
        intro j x hj
        simp only [castL_rfl, List.getElem?_set] at hj
        split at hj
        · rename_i hij
          split at hj
          · cases hj
            refine ⟨b, base, [], by rw [b1]; exact hβ, by simpa using hel, ?_, fun j v hj => by simp at hj⟩
            have : putAt [] fo v.cells.toList = [] := by simp [putAt, hv0]
            rw [this] at hrep'
            exact hrep'
          · cases hj
        · rw [b1]; exact hobj j x hj
      · have hecs := row_lt hg hcells hem
        have hone : ∀ u ∈ v.cells.toList, u.oneCell' = true := rep_one hvrep.cells
        have hcur : base + i * o.k.size + fo + v.cells.toList.length ≤ cur.size := by omega
        have hrun := run_storeAt (P := P) (t := t) hk rfl hulen hg hcur hone
        obtain ⟨s1, s2⟩ := shp_setRow (w := w) (cs := (putAt cur.toList (base + i * o.k.size + fo) v.cells.toList).toArray) hg
          (by have := putAt_length cur.toList v.cells.toList (base + i * o.k.size + fo) (by simpa using hcur); simpa using this)
        have hgg := setRow_heap w b cur (putAt cur.toList (base + i * o.k.size + fo) v.cells.toList).toArray et (0, 0) hg
        have kp : ∀ b', I1.D b' → b' < w.heap.size → I1.D b' ∧ Keep w (w.setRow b (putAt cur.toList (base + i * o.k.size + fo) v.cells.toList).toArray) b' :=
          fun b' hb' hl => ⟨hb', (s2 b' hl fun q => hown.nd (q ▸ hb')).keep hl⟩
        refine ⟨_, I1, hrun, hi1.writeL ho1 (by rw [b1]; exact hβ) s1 s2 ?_ (by simp [castL_rfl])⟩
        intro j x hj
        simp only [castL_rfl, List.getElem?_set] at hj
        rw [b1]
        split at hj
        · rename_i hij
          subst hij
          split at hj
          · cases hj
            refine ⟨b, base, putAt ecs fo v.cells.toList, hβ, by rw [putAt_length _ _ _ hfo]; exact hel, hrep'.tr kp kp, ?_⟩
            refine cells_new hgg fun j' v' hj' => ?_
            have := putAt_cells (o := base + i * o.k.size) (fun j v hj => cells_of_row hg hcells j v hj) hfo (by simpa using hcur) j' v' hj'
            simpa using this
          · cases hj
        · rename_i hij
          obtain ⟨b', base', ecs', e6, hel', hrep2, hcells'⟩ := hobj j x hj
          rw [hβ] at e6; cases e6
          refine ⟨b, base, ecs', hβ, hel', hrep2.tr kp kp, ?_⟩
          refine cells_new hgg fun j' v' hj' => ?_
          have h2 := cells_of_row hg hcells' j' v' hj'
          rw [List.getElem?_toArray, putAt_get _ _ _ _ (by simpa using hcur)]
          have hj'l : j' < o.k.size := by
            rw [← hel']
            rcases Nat.lt_or_ge j' ecs'.length with h' | h'
            · exact h'
            · rw [List.getElem?_eq_none h'] at hj'; cases hj'
          have hfl : fo + v.cells.toList.length ≤ o.k.size := by rw [← hel]; exact hfo
          rw [if_neg]
          · exact h2
          · rintro ⟨p1, p2⟩
            simp only at p1 p2
            rcases Nat.lt_or_gt_of_ne hij with hlt | hgt
            · have : (i + 1) * o.k.size ≤ j * o.k.size := Nat.mul_le_mul_right _ hlt
              rw [Nat.add_mul, Nat.one_mul] at this
              omega
            · have : (j + 1) * o.k.size ≤ i * o.k.size := Nat.mul_le_mul_right _ hgt
              rw [Nat.add_mul, Nat.one_mul] at this
              omega
  · cases e

/-! boxes -/
theorem zeroC_ok {i : TypeInfo} (h : zeroOk i = true) : ∃ z, i.zero = some z ∧ (∀ T I w, All2 (CellRel T I w) (zeroC i) z.cells.toList) ∧ z.cells.size = i.size := by
  unfold zeroOk at h
  unfold zeroC
  cases hz : i.zero with
  | none => rw [hz] at h; cases h
  | some z =>
    rw [hz] at h
    simp only [Bool.and_eq_true, beq_iff_eq] at h
    refine ⟨z, rfl, fun T I w => ?_, h.2⟩
    have := comp_ok (T := T) (I := I) (w := w) h.1
    cases z with
    | agg cs =>
      rcases this with ⟨_, vs, hv, ha⟩ | ⟨hb, _⟩
      · have e : cs.toList = vs := by
          have : cs = vs.toArray := by injection hv
          rw [this]
        simp only [Value.cells, e]
        simp only [compOf, e] at ha
        exact ha
      · cases hb
    | tuple vs => cases h.1
    | _ =>
      rcases this with ⟨hb, _⟩ | ⟨_, c, hc, hr⟩
      · cases hb
      · simp only [compOf, List.cons.injEq, and_true] at hc
        subst hc
        exact ⟨hr, trivial⟩

theorem Inv.freshBox (h : Inv X I st a w) {d : Nat} (hd : d < st.n) {cells : Array Value} {et : TypeId} {x : Bool × List Cell} (hw : w'.heap = w.heap.push (.cells cells et))
    (ha : All2 (CellRel X.T (I.atB d w.heap.size) w') x.2 cells.toList) (h1 : x.1 = false → x.2.length = 1) (hos : w'.os = w.os ∧ w'.output = w.output ∧ w'.tape = w.tape := by exact ⟨rfl, rfl, rfl⟩) :
    Inv X (I.atB d w.heap.size) ((st.killB d).setB (aset (st.killB d).b d x)) a w' := by
  obtain ⟨hs, hold, hsz, hnew⟩ := shp_push hw hos
  have hi := (h.alloc hs hold).killB d (I' := I.atB d w.heap.size) rfl rfl rfl (fun b hb => setFn_other _ _ _ _ hb)
  have hnd : ¬ I.D w.heap.size := fun hd => by have := h.wld.dlt _ hd; omega
  have hnt : ¬ X.T w.heap.size := fun ht => by have := (X.hT _ ht).1; have := h.wld.shp.1; omega
  have hdp : d < PL := by have := h.nb; unfold PL; omega
  have hg : (I.atB d w.heap.size).γ d = w.heap.size := setFn_same _ _ _
  refine hi.addB ?_ ?_ ?_ ?_
  · rw [hg]; exact ⟨⟨by omega, hnd, hnt⟩, fun _ => h.wld.shp.1, fun hp => absurd hp (by omega), fun hp => absurd hp (by omega)⟩
  · rw [hg]
    refine ⟨cells.toList, ha, cells_new hnew fun j v hj => by simpa using hj, ⟨cells, et, hnew, by rw [ha.length]; simp⟩, h1⟩
  · intro b y hne hb
    obtain ⟨_, hb⟩ := aget_adel_some hb
    simp only [St.mapC, aget_amap] at hb
    cases hq : aget st.b b with
    | none => rw [hq] at hb; cases hb
    | some y0 =>
      have e1 : (I.atB d w.heap.size).γ b = I.γ b := setFn_other _ _ _ _ hne
      rw [hg, e1]
      have := (h.b b y0 hq).1.own.lt
      omega
  · intro L o b y ho hβ
    rw [hg]
    have := ((h.s L o ho).1.own b y hβ).lt
    omega

theorem evAlloc_ok {t : TypeId} {d : Option Nat} (h : Inv X I st a w) (e : evAlloc (tyOf P t) st d = some st') :
    ∃ v w' I', (Instr.alloc t true (.tuple #[])).run P w = .ok v w' ∧ Inv X I' st' (a.put d v) w' := by
  cases d with
  | none => cases e
  | some d =>
    obtain ⟨hc, e1⟩ := ifB_some e
    simp only [okZero, Bool.and_eq_true, beq_iff_eq, decide_eq_true_eq, Bool.or_eq_true] at hc
    obtain ⟨⟨⟨hz, hl⟩, hpos⟩, hag⟩ := hc
    have hd := (setT_some e1 d rfl).1
    obtain ⟨i, td, hi, hu, hsz, hagg, hzero, hzk⟩ := tyOf_known P t (.inr (.inr hz))
    obtain ⟨z, hiz, ha, hzs⟩ := zeroC_ok (i := i) (by rw [← hzk]; exact hz)
    have hrun : (Instr.alloc t true (.tuple #[])).run P w = .ok (.pointer (some ⟨w.heap.size, 0, none⟩)) (w.alloc (.cells z.cells t)) := by
      simp [Instr.alloc, zeroValue, typeInfo, hi, hiz, newVar, newRow]
    have hb := h.freshBox (w' := w.alloc (.cells z.cells t)) (x := ((tyOf P t).agg, (tyOf P t).zero)) (et := t) hd rfl (by rw [hzero]; exact ha _ _ _) (fun hg => by
      rcases hag with hag | hag
      · rw [hag] at hg; cases hg
      · show (tyOf P t).zero.length = 1
        omega)
    exact ⟨_, _, _, hrun, hb.setT (vr_one (by show _ = _; simp [It.atB, setFn_same])) e1⟩

theorem evBox_ok {t : TypeId} {d : Option Nat} {sv : SV} {v : Value} (h : Inv X I st a w) (hv : VR X.T I w sv v) (e : evBox (tyOf P t) st sv d = some st') :
    ∃ u w' I', (Instr.box t v).run P w = .ok u w' ∧ Inv X I' st' (a.put d u) w' := by
  cases d with
  | none => cases e
  | some d =>
    obtain ⟨hc, e1⟩ := ifB_some e
    simp only [Bool.and_eq_true, beq_iff_eq, decide_eq_true_eq, Bool.or_eq_true] at hc
    obtain ⟨⟨⟨hk, hl⟩, hpos⟩, hag⟩ := hc
    unfold boxK at e1
    have hd : d < st.n := by
      have h1 := (setT_some e1 d rfl).1
      have : ∀ (cs : List Cell) (b : Nat) (s : St), (relabels b cs s).n = s.n := by
        intro cs
        induction cs with
        | nil => intro b s; rfl
        | cons c cs ih =>
          intro b s
          simp only [relabels]
          rw [ih]
          cases c with
          | hdr k l off len =>
            simp only [relabC, St.relabel, ifB_ite]
            split
            · rfl
            · cases aget s.s l <;> rfl
          | _ => rfl
      rw [this] at h1
      exact h1
    have hrun : (Instr.box t v).run P w = .ok (.pointer (some ⟨w.heap.size, 0, none⟩)) (w.alloc (.cells v.cells t)) := by
      simp [Instr.box, newVar, newRow]
    obtain ⟨hs, hold, hsz, hnew⟩ := shp_push (w := w) (w' := w.alloc (.cells v.cells t)) (o := .cells v.cells t) rfl
    have hkeep := h.keeps w.heap.size hs (fun b hb _ => hold b hb) (fun hd => by have := h.wld.dlt _ hd; omega) (fun ht => by have := (X.hT _ ht).1; have := h.wld.shp.1; omega)
    have hv' : VR X.T (I.atB d w.heap.size) (w.alloc (.cells v.cells t)) (sv.mapC (killBC d)) v :=
      hv.map fun c v hc => (hkeep c v hc).killBC (I' := I.atB d w.heap.size) rfl rfl rfl (fun b hb => setFn_other _ _ _ _ hb)
    have hlen : (sv.mapC (killBC d)).cells.length = sv.cells.length := by cases sv <;> simp [SV.mapC, SV.cells]
    have hvc := sv_cells hv' (fun c v hr => hr.one) (by omega)
    have hb := h.freshBox (w' := w.alloc (.cells v.cells t)) (x := ((tyOf P t).agg, (sv.mapC (killBC d)).cells)) (et := t) hd rfl hvc (fun hg => by
      rcases hag with hag | hag
      · rw [hag] at hg; cases hg
      · show (sv.mapC (killBC d)).cells.length = 1
        omega)
    obtain ⟨I', hI', _, hγ⟩ := hb.relabels (sv.mapC (killBC d)).cells (d * 1000 + 500)
    exact ⟨_, _, _, hrun, hI'.setT (vr_one (by show _ = _; rw [hγ]; simp [It.atB, setFn_same])) e1⟩

/-! values built of parts -/
def PartR (R : SV → Value → Prop) (p : Nat × SV) (q : Nat × Value) : Prop := p.1 = q.1 ∧ R p.2 q.2

theorem Inv.evParts (h : Inv X I st a w) : ∀ (l : List (Nat × Operand)), All2 (PartR (VR X.T I w)) (evParts st l) (l.map fun p => (p.1, a.eval p.2))
  | [] => trivial
  | p :: r => ⟨⟨rfl, h.ev p.2⟩, Inv.evParts h r⟩

theorem fill_step (cells : Array Value) (off : Nat) (vs : Array Value) (h : off + vs.size ≤ cells.size) :
    (vs.zipIdx.foldl (fun cs (x : Value × Nat) => cs.setIfInBounds (off + x.2) x.1) cells).toList = putAt cells.toList off vs.toList := by
  have h0 : vs.zipIdx.foldl (fun cs (x : Value × Nat) => cs.setIfInBounds (off + x.2) x.1) cells = (vs.toList.zipIdx 0).foldl (fun cs (x : Value × Nat) => cs.setIfInBounds (off + x.2) x.1) cells := by
    rw [← Array.foldl_toList]; simp
  rw [h0]
  obtain ⟨h1, h2⟩ := Great.foldl_set off vs.toList 0 cells
  apply List.ext_getElem?
  intro k
  rw [Array.getElem?_toList, h2 k, putAt_get _ _ _ _ (by simpa using h)]
  simp only [Nat.add_zero]
  by_cases hk : off ≤ k ∧ k < off + vs.toList.length
  · rw [if_pos ⟨hk.1, hk.2, by have := hk.2; simp at this; omega⟩, if_pos hk]
  · rw [if_neg (fun q => hk ⟨q.1, q.2.1⟩), if_neg hk]
    simp

theorem fillC_ok {R : Cell → Value → Prop} (hR : ∀ c v, R c v → v.oneCell' = true) {place : Nat → Option (Nat × Nat)} : ∀ {ps : List (Nat × SV)} {qs : List (Nat × Value)} {cs cs' : List Cell} {vs : Array Value},
    All2 (PartR (SVP R)) ps qs → All2 R cs vs.toList → fillC place ps cs = some cs' → ∃ vs', Instr.fill place vs qs = some vs' ∧ All2 R cs' vs'.toList
  | [], [], cs, cs', vs, _, h, e => by cases e; exact ⟨vs, rfl, h⟩
  | p :: ps, q :: qs, cs, cs', vs, hp, h, e => by
    obtain ⟨⟨h1, h2⟩, h3⟩ := hp
    obtain ⟨pl, epl, e⟩ := bnd_eq e
    obtain ⟨hc, e⟩ := ifB_some e
    simp only [Bool.and_eq_true, beq_iff_eq, decide_eq_true_eq] at hc
    obtain ⟨⟨hl, hpos⟩, hfit⟩ := hc
    have hvc := sv_cells h2 hR (by omega)
    have hvl : q.2.cells.size = pl.2 := by have := hvc.length; simp at this; omega
    have hcl : cs.length = vs.size := by have := h.length; simpa using this
    have hst := fill_step vs pl.1 q.2.cells (by omega)
    obtain ⟨vs', r1, r2⟩ := fillC_ok hR (vs := q.2.cells.zipIdx.foldl (fun cs (x : Value × Nat) => cs.setIfInBounds (pl.1 + x.2) x.1) vs) h3 (by rw [hst]; exact h.setCells hvc (by omega)) e
    refine ⟨vs', ?_, r2⟩
    obtain ⟨qi, qv⟩ := q
    simp only at h1 h2 hvl hvc r1
    simp only [Instr.fill, ← h1, epl]
    rw [if_neg (by simp; omega)]
    exact r1
  | [], _ :: _, _, _, _, h, _, _ => h.elim
  | _ :: _, [], _, _, _, h, _, _ => h.elim

theorem places_some {fs : List Field} (h : ∀ f ∈ fs, fieldOk P f = true) : fs.mapM (fun f => (P.info? f.type).map fun i => (f.offset, i.size)) = some (fs.map fun f => ((fieldE P f).1, (fieldE P f).2.1)) := by
  induction fs with
  | nil => rfl
  | cons f fs ih =>
    have h1 := h f (by simp)
    unfold fieldOk at h1
    cases hi : P.info? f.type with
    | none => rw [hi] at h1; cases h1
    | some fi =>
      simp only [List.mapM_cons, hi, ih (fun f hf => h f (by simp [hf])), Option.map_some, List.map_cons, fieldE]
      rfl

theorem evBuild_ok {t : TypeId} {ps : List (Nat × SV)} {qs : Array (Nat × Value)} {sv : SV} (hp : All2 (PartR (VR T I w)) ps qs.toList) (e : evBuild (tyOf P t) ps = some sv) :
    ∃ v, (Instr.build t qs).run P w = .ok v w ∧ VR T I w sv v := by
  unfold evBuild at e
  rw [ifB_ite] at e
  split at e
  · rename_i hc
    simp only [Bool.and_eq_true, beq_iff_eq] at hc
    obtain ⟨cs, e1, e2⟩ := bnd_eq e
    cases e2
    obtain ⟨i, td, hi, hu, hsz, _, hzero, hzk⟩ := tyOf_known P t (.inr (.inr hc.1))
    obtain ⟨z, hiz, ha, hzs⟩ := zeroC_ok (i := i) (by rw [← hzk]; exact hc.1)
    obtain ⟨fs, hus, hfl, hok⟩ := ty_struct (P := P) (t := t) hc.2
    obtain ⟨vs', r1, r2⟩ := fillC_ok (R := CellRel T I w) (fun c v hr => hr.one) (vs := z.cells) hp (by rw [hzero]; exact ha _ _ _) e1
    refine ⟨.agg vs', run_build w t qs vs' ?_, vs'.toList, by simp, r2⟩
    unfold Program.built
    simp only [hi, hus, hiz, places_some hok]
    rw [← r1]
    congr 1
    funext k
    simp only [placeF, hfl, nth_eq]
    simp only [List.getElem?_toArray, List.getElem?_map]
    cases fs.toList[k]? <;> rfl
  · rw [ifB_ite] at e
    split at e
    · rename_i hc
      simp only [Bool.and_eq_true, beq_iff_eq] at hc
      obtain ⟨cs, e1, e2⟩ := bnd_eq e
      cases e2
      obtain ⟨i, td, hi, hu, hsz, _, hzero, hzk⟩ := tyOf_known P t (.inr (.inr hc.1))
      obtain ⟨z, hiz, ha, hzs⟩ := zeroC_ok (i := i) (by rw [← hzk]; exact hc.1)
      obtain ⟨n, el, ie, hus, hie, _, _, _, hen, _⟩ := ty_array (P := P) (t := t) hc.2
      obtain ⟨vs', r1, r2⟩ := fillC_ok (R := CellRel T I w) (fun c v hr => hr.one) (vs := z.cells) hp (by rw [hzero]; exact ha _ _ _) e1
      refine ⟨.agg vs', run_build w t qs vs' ?_, vs'.toList, by simp, r2⟩
      unfold Program.built
      simp only [hi, hus, hiz, hie]
      rw [← r1]
      congr 1
      funext k
      simp only [placeA, hen]
    · cases e

/-- parts into a row of elements -/
theorem partsTo_ok {D' : Nat → Prop} {k : Kd} {size : Nat} (hks : size = k.size) (hpos : 0 < size) (h : Inv X I st a w) (hD : ∀ b, I.D b → D' b) : ∀ {ps : List (Nat × SV)} {qs : List (Nat × Value)} {l l' : List k.T} {vs : Array Value},
    (∀ L ∈ partLabels ps, L < PL → ∀ o, aget st.s L = some o → ∀ b, blkOf I L b → D' b) → All2 (PartR (VR X.T I w)) ps qs → Flat D' w k l vs.toList → partsTo st k ps l = some l' →
    ∃ vs', Instr.fill (fun i => some (i * size, size)) vs qs = some vs' ∧ Flat D' w k l' vs'.toList ∧ l'.length = l.length
  | [], [], l, l', vs, _, _, hf, e => by cases e; exact ⟨vs, rfl, hf, rfl⟩
  | p :: ps, q :: qs, l, l', vs, hL, hp, hf, e => by
    obtain ⟨⟨h1, h2⟩, h3⟩ := hp
    obtain ⟨u, e1, e⟩ := bnd_eq e
    obtain ⟨x, e2, e⟩ := bnd_eq e
    obtain ⟨hi, e⟩ := ifB_some e
    simp only [decide_eq_true_eq] at hi
    have hv := sealD_ok (D' := D') h h2 e1 hD (fun L hm => hL L (by simp [partLabels, hm]))
    have hx := asK_ok e2 hv.cells
    have hvl : q.2.cells.size = size := by have := rep_length hx; simp at this; omega
    have hfl := hf.length
    simp only [Array.length_toList] at hfl
    have hle : p.1 * size + q.2.cells.size ≤ vs.size := by
      rw [hvl, hfl, ← hks]
      have : (p.1 + 1) * size ≤ l.length * size := Nat.mul_le_mul_right _ hi
      rw [Nat.add_mul, Nat.one_mul] at this
      exact this
    have hst := fill_step vs (p.1 * size) q.2.cells hle
    have hflat : ∀ (l : List k.T) (cs : List Value) (j : Nat), Flat D' w k l cs → j < l.length → Flat D' w k (l.set j x) (putAt cs (j * size) q.2.cells.toList) := by
      intro l
      induction l with
      | nil => intro cs j _ hj; simp at hj
      | cons y l ih =>
        intro cs j hf hj
        obtain ⟨c, d, rfl, hl, hr, h2⟩ := hf
        have hql : q.2.cells.toList.length = size := by simpa using hvl
        cases j with
        | zero =>
          refine ⟨q.2.cells.toList, d, ?_, by rw [hql, hks], hx, h2⟩
          simp only [putAt, Nat.zero_mul, List.take_zero, List.nil_append, Nat.zero_add, hql]
          rw [show size = c.length by omega, List.drop_left]
        | succ j =>
          refine ⟨c, putAt d (j * size) q.2.cells.toList, ?_, hl, hr, ih d j h2 (by simpa using hj)⟩
          have e1 : (j + 1) * size = c.length + j * size := by rw [Nat.add_mul, Nat.one_mul, hl, hks]; omega
          simp only [putAt]
          rw [e1, Nat.add_assoc, List.take_length_add_append, List.drop_length_add_append]
          simp
    obtain ⟨vs', r1, r2, r3⟩ := partsTo_ok hks hpos h hD (vs := q.2.cells.zipIdx.foldl (fun cs (x : Value × Nat) => cs.setIfInBounds (p.1 * size + x.2) x.1) vs) (fun L hm => hL L (by simp [partLabels, hm])) h3
      (by rw [hst]; exact hflat l vs.toList p.1 hf hi) e
    refine ⟨vs', ?_, r2, by simpa using r3⟩
    obtain ⟨qi, qv⟩ := q
    simp only at h1 h2 hvl r1 hle
    simp only [Instr.fill, ← h1]
    rw [if_neg (by simp; omega)]
    exact r1
  | [], _ :: _, _, _, _, _, h, _, _ => h.elim
  | _ :: _, [], _, _, _, _, h, _, _ => h.elim

theorem evBuildSlice_ok {t : TypeId} {len : Nat} {ps : List (Nat × SV)} {qs : Array (Nat × Value)} {d : Option Nat} (h : Inv X I st a w) (hp : All2 (PartR (VR X.T I w)) ps qs.toList)
    (e : evBuildSlice (tyOf P t) st len ps d = some st') : ∃ v w' I', (Instr.buildSlice t len qs).run P w = .ok v w' ∧ Inv X I' st' (a.put d v) w' := by
  cases d with
  | none => cases e
  | some d =>
    obtain ⟨hc, e1⟩ := ifB_some e
    simp only [Bool.and_eq_true, beq_iff_eq, decide_eq_true_eq] at hc
    obtain ⟨z0, hz0, e2⟩ := bnd_eq e1
    obtain ⟨l, hl, e3⟩ := bnd_eq e2
    obtain ⟨el, ie, hu, hie, hsz, hpos, hzok, hek, hen, heb⟩ := ty_slice (P := P) (t := t) hc.1
    rw [← hek] at hzok hsz
    obtain ⟨z, zl, hz, hzv, hzq⟩ := zOk_some hzok
    have hzs : z.cells.size = (tyOf P t).ek.size := zOk_size (by rw [← hz]; exact hzok)
    obtain ⟨I1, hi1, d1, b1, l1, g1, f1, k1, _, _⟩ := h.freezes (partLabels ps)
    have hrep : Rep I1.D I1.D w (tyOf P t).ek z0 z.cells.toList := zero_rep hz0 hzv hzq
    have hbase : Flat I1.D w (tyOf P t).ek (List.replicate len z0) ((Array.range (len * ie.size)).map (z.cells[· % z.cells.size]!)).toList := by
      have e2 : z.cells.size = ie.size := by rw [hzs, hsz]
      have := range_map_flatten z.cells ie.size e2 len
      rw [e2, this]
      exact flat_replicate hrep len
    obtain ⟨vs', r1, r2, r3⟩ := partsTo_ok hsz.symm hpos h d1 f1 hp hbase hl
    have hsmall : ¬ len * ie.size > 2 ^ 24 := by have := hc.2; rw [hen] at this; omega
    have hrun : (Instr.buildSlice t len qs).run P w = .ok (.slice (some ⟨w.heap.size, 0, none⟩) len len) (w.alloc (.cells vs' el)) := by
      by_cases h0 : len * ie.size = 0
      · have e0 : ((Array.range (len * ie.size)).map (z.cells[· % z.cells.size]!)) = #[] := by rw [h0, Array.range_zero']; simp
        rw [e0] at r1
        simp [Instr.buildSlice, run_underlying hu, run_size hie, hsmall, h0, Array.range_zero', r1, newRow]
      · exact run_buildSlice w t el len qs vs' ie z hu hie hz hsmall h0 r1
    have hd : d < (freezes (partLabels ps) st).n := (setT_some e3 d rfl).1
    have hL : d * 1000 < PL := lab0 hi1 hd
    have hlen : l.length = len := by rw [r3]; simp
    obtain ⟨I', h1, h2⟩ := hi1.grown (w' := w.alloc (.cells vs' el)) hL r2 (rest := []) (arr := vs') (et := el) (by simp) (cap := len) (by have := r2.length; simp at this; rw [this, hlen]) (by omega) rfl
    rw [hlen] at h2
    exact ⟨_, _, I', hrun, h1.setT (vr_one h2) e3⟩

/-! conversions -/
theorem kindT_int {e : TypeId} {k : IntKind} (h : kindT P e = .int k) : P.underlying e = some (.int k) := by
  unfold kindT kOf at h
  rw [ifB_ite] at h
  split at h
  · exfalso
    cases hks : kinds P 6 e with
    | nil => rw [hks] at h; cases h
    | cons x r => rw [hks] at h; cases h
  · rename_i ha
    unfold aggT at ha
    rw [kinds] at h
    cases hu : P.underlying e with
    | none => rw [hu] at h; cases h
    | some d =>
      rw [hu] at h ha
      cases d <;> first | (cases h; rfl) | (exact absurd rfl ha) | cases h

theorem bytesOf_fold : ∀ (ns : List Int) (s : ByteArray), (ns.foldl (fun r n => r.push (UInt8.ofNat n.toNat)) s).data.toList = s.data.toList ++ bytesOf ns
  | [], s => by simp [bytesOf]
  | n :: r, s => by
    simp only [List.foldl_cons, bytesOf]
    rw [bytesOf_fold r]
    simp [ByteArray.data_push]

theorem run_convert_bytes {src dst e : TypeId} {A : Option Addr} {c : Nat} {ns : List Int} (hs : P.underlying src = some (.slice e)) (he : P.underlying e = some (.int .u8)) (hd : P.underlying dst = some .string)
    (hx : (Builtin.firstCells 1 ns.length (.slice A ns.length c)).run P w = .ok (ns.map (Value.int .u8)).toArray w) :
    (convert src dst (.slice A ns.length c)).run P w = .ok (.string ⟨(bytesOf ns).toArray⟩) w := by
  have hconv : (convert src dst (.slice A ns.length c)).run P w = (Conv.bytesToString (.slice A ns.length c)).run P w := by
    cases A <;> simp [convert, run_underlying hs, run_underlying hd, run_underlying he]
  rw [hconv]
  cases A with
  | none =>
    have : ns = [] := by
      simp only [Builtin.firstCells, Sem.run_pure, Result.ok.injEq, and_true] at hx
      cases ns with
      | nil => rfl
      | cons x r => simp at hx
    subst this
    rfl
  | some A =>
    simp only [Builtin.firstCells, Nat.mul_one] at hx
    rw [run_bytesToString w A ns.length c ns hx]
    congr 2
    apply ByteArray.ext
    apply Array.ext'
    rw [bytesOf_fold]
    simp

theorem flat_u8 {D : Nat → Prop} : ∀ {ns : List Int} {cs : List Value}, Flat D w (.int .u8) ns cs → cs = ns.map (Value.int .u8)
  | [], cs, h => h
  | n :: r, cs, h => by
    obtain ⟨c, d, rfl, hl, hr, h2⟩ := h
    simp only [Rep] at hr
    subst hr
    rw [flat_u8 h2]
    rfl

theorem evConvert_ok {s d : TypeId} {sx sv : SV} {x : Value} (h : Inv X I st a w) (hx : VR X.T I w sx x) (e : evConvert (tyOf P s) (tyOf P d) st sx = some sv) :
    ∃ v, (convert s d x).run P w = .ok v w ∧ VR X.T I w sv v := by
  have hbytes : ∀ (sx : SV), VR X.T I w sx x → ifB ((tyOf P s).form == 1 && decide ((tyOf P s).ek = .int .u8) && (tyOf P d).form == 4) (bnd (elemsOf st (.int .u8) sx) strV) none = some sv → (∀ tv y, sx ≠ .one (.val tv .str y)) →
      ∃ v, (convert s d x).run P w = .ok v w ∧ VR X.T I w sv v := by
    intro sx hx e hns
    obtain ⟨hc, e1⟩ := ifB_some e
    simp only [Bool.and_eq_true, beq_iff_eq, decide_eq_true_eq] at hc
    obtain ⟨ns, hn, e2⟩ := bnd_eq e1
    cases e2
    obtain ⟨el, ie, hu, hie, hsz, hpos, hzok, hek, hen, heb⟩ := ty_slice (P := P) (t := s) hc.1.1
    have he := kindT_int (P := P) (e := el) (by rw [← hek]; exact hc.1.2)
    obtain ⟨td, hud, hd⟩ := ty_basic (P := P) (n := 4) (by simp) hc.2
    have hd : td = .string := by simpa using hd
    subst hd
    obtain ⟨hl, cs, hf, hfc⟩ := elemsOf_ok (P := P) h hx hn
    have hcs := flat_u8 hf
    subst hcs
    have hsl : ∃ A c, x = .slice A ns.length c := by
      cases x with
      | slice A n c => simp [Builtin.lenOf] at hl; exact ⟨A, c, by rw [hl]⟩
      | string s' =>
        exfalso
        unfold elemsOf at hn
        split at hn
        · obtain ⟨A, c, hv, _⟩ := val_slice hx; cases hv
        · obtain ⟨⟨A, hv⟩, _⟩ := hx; cases hv
        · have := vr_nl hx; cases this
        · obtain ⟨A, c, hv, _⟩ := hx; cases hv
        · exact hns _ _ rfl
        · cases hn
      | _ => simp [Builtin.lenOf] at hl
    obtain ⟨A, c, rfl⟩ := hsl
    exact ⟨_, run_convert_bytes hu he hud (hfc w rfl), mk_str _ _⟩
  unfold evConvert at e
  split at e
  · rename_i tv k n
    obtain ⟨hc, e1⟩ := ifB_some e
    simp only [Bool.and_eq_true, beq_iff_eq] at hc
    have := vr_int hx; subst this
    obtain ⟨si, sd, _, hus, _⟩ := tyOf_known P s (.inl hc.1)
    obtain ⟨di, dd, hdi, hud, hform⟩ := tyOf_split P d (.inr (.inl (by omega)))
    obtain ⟨td, hud', hd⟩ := ty_basic (P := P) (n := 5) (by simp) hc.2
    have hd : ∃ k, td = .int k := by simpa using hd
    obtain ⟨dk, rfl⟩ := hd
    have hhint : (tyOf P d).hint = .int dk := by
      obtain ⟨_, _, _, _, _, e6⟩ := formT_base P (baseT P d di) dd
      rw [hform, e6]
      show kindT P d = _
      have ha : aggT P d = false := by unfold aggT; rw [hud']
      unfold kindT kOf
      rw [ha, ifB_false, kinds, hud']
      rfl
    rw [hhint] at e1
    refine ⟨_, ?_, tI_ok e1⟩
    simp [convert, run_underlying hus, run_underlying hud', Conv.intToInt]
  · rename_i tv s'
    obtain ⟨hc, e1⟩ := ifB_some e
    simp only [Bool.and_eq_true, beq_iff_eq] at hc
    cases e1
    have := vr_str hx; subst this
    obtain ⟨d1, hu1, hd1⟩ := ty_basic (P := P) (n := 4) (by simp) hc.1
    have hd1 : d1 = .string := by simpa using hd1
    subst hd1
    obtain ⟨d2, hu2, hd2⟩ := ty_basic (P := P) (n := 4) (by simp) hc.2
    have hd2 : d2 = .string := by simpa using hd2
    subst hd2
    exact ⟨_, by simp [convert, run_underlying hu1, run_underlying hu2], mk_str _ _⟩
  · rename_i hn1 hn2
    exact hbytes _ hx e fun tv y q => hn2 tv y q

end Go.Ev
