/- Contracts, and calls by them. -/
import Derived.Test.YtgjinkacngkgdaaDoorEvZ
namespace Go.Ev
set_option linter.unusedVariables false
set_option linter.unusedSimpArgs false

variable {X : Cx} {I : It} {st st' : St} {a : Act} {w w' : World} {T : Nat → Prop} {P : Program}

/-! what a function hands back -/
/-- a cell with memory of its own -/
def OwnC (D : Nat → Prop) (w : World) : Cell → Value → Option (Nat × Nat) → Prop
  | .val _ (.sl e) l, v, bo => (∃ A c, v = .slice A (List.length l) c ∧ List.length l ≤ c ∧ (c = 0 ∨ ∃ b base, bo = some (b, base) ∧ A = some ⟨b, base, none⟩ ∧ Room w b (base + c * e.size))) ∧ ObjRel D w bo ⟨e, l⟩
  | .val _ k x, v, bo => bo = none ∧ k.isAgg = false ∧ Rep D D w k x [v]
  | _, _, _ => False

def OwnL (D : Nat → Prop) (w : World) : List Cell → List Value → List (Option (Nat × Nat)) → Prop
  | [], [], [] => True
  | c :: cs, v :: vs, bo :: os => OwnC D w c v bo ∧ OwnL D w cs vs os
  | _, _, _ => False

def OwnV (D : Nat → Prop) (w : World) (u : Val) (v : Value) (os : List (Option (Nat × Nat))) : Prop :=
  (u.k.isAgg = true ∧ ∃ vs : List Value, v = .agg vs.toArray ∧ OwnL D w (explode false u.k u.x) vs os) ∨ (u.k.isAgg = false ∧ OwnL D w (explode false u.k u.x) [v] os)

def Res1 (T D : Nat → Prop) (w : World) (p : Val × RMode) (v : Value) (os : List (Option (Nat × Nat))) : Prop :=
  match p.2 with
  | .own => OwnV D w p.1 v os
  | .deep => os = [] ∧ VRep D D w p.1 v
  | .tv => os = [] ∧ VRep (topB T D true) D w p.1 v

def ResL (T D : Nat → Prop) (w : World) : List (Val × RMode) → List Value → List (List (Option (Nat × Nat))) → Prop
  | [], [], [] => True
  | p :: ps, v :: vs, os :: oss => Res1 T D w p v os ∧ ResL T D w ps vs oss
  | _, _, _ => False

def oneOr (vs : List Value) : Value := match vs with
  | [v] => v
  | l => .tuple l.toArray

def blks : List (Option (Nat × Nat)) → List Nat
  | [] => []
  | none :: r => blks r
  | some (b, _) :: r => b :: blks r

theorem blks_append (a b : List (Option (Nat × Nat))) : blks (a ++ b) = blks a ++ blks b := by
  induction a with
  | nil => rfl
  | cons x r ih => rcases x with _ | ⟨b, o⟩ <;> simp [blks, ih]

structure Enterable (P : Program) (g : FuncId) : Prop where
  ex : ∃ fn, P.funcs[g]? = some fn ∧ fn.body.isNone = false ∧ (fn.name == "runtime.NumGoroutine") = false

/-- the contract: the function, given what stands for these values, comes back with what stands for the result -/
structure Con (P : Program) (G : World → Prop) (g : FuncId) (us : List Val) (r : Res) : Prop where
  ent : Enterable P g
  run : ∀ (w : World) (T D : Nat → Prop) (args : List Value), G w → (∀ b, T b → b < w.heap.size) → (∀ b, D b → b < w.heap.size) → All2 (VRep (topB T D true) D w) us args →
    Calls P g args.toArray w fun e w' => ∃ vs D' oss, e = .returned (oneOr vs) ∧ Shp w w' ∧ (∀ b, b < w.heap.size → Same w w' b) ∧ (∀ b, D b → D' b) ∧ (∀ b, D' b → b < w'.heap.size) ∧
      (∀ b, D' b → D b ∨ w.heap.size ≤ b) ∧ ResL T D' w' r.vals vs oss ∧ (blks oss.flatten).Nodup ∧ (∀ b ∈ blks oss.flatten, w.heap.size ≤ b ∧ b < w'.heap.size ∧ ¬ D' b)

/-- a table of callees that holds -/
def SemsOk (P : Program) (G : World → Prop) (F : Sems) : Prop := ∀ g us r, F g us = some r → Con P G g us r

/-- what holds of the memory that stood at the start goes on to hold -/
def Steady (G : World → Prop) : Prop := ∀ w w' : World, G w → (∀ b, b < w.heap.size → Same w w' b) → G w'

/-! the arguments -/
theorem sealAll_ok {TT : Nat → Prop} (h : Inv X I st a w) (hT : ∀ b, topB X.T I.D true b → TT b) (hL : ∀ L o, aget st.s L = some o → ∀ b, blkOf I L b → TT b) (hB : ∀ B x, aget st.b B = some x → TT (I.γ B)) : ∀ n,
    (∀ c v u, CellRel X.T I w c v → sealC st n c = some u → u.k.isAgg = false ∧ Rep TT I.D w u.k u.x [v]) ∧
    (∀ f all l u, sealCaps st n f all l = some u → RepCaps TT I.D w (.func (.func f) #[] (all.map fun B => boxPtr (I.γ B)).toArray) u.k u.x (l.map fun B => boxPtr (I.γ B))) ∧
    (∀ x vs u, All2 (CellRel X.T I w) x.2 vs → sealBox st n x = some u → Rep TT I.D w u.k u.x vs) ∧
    (∀ cs vs u, All2 (CellRel X.T I w) cs vs → sealCs st n cs = some u → Rep TT I.D w u.k u.x vs ∧ u.k.isAgg = true) := by
  have hval : ∀ tv k x v, CellRel X.T I w (.val tv k x) v → k.isAgg = false ∧ Rep TT I.D w k x [v] := fun tv k x v hc =>
    ⟨hc.1, hc.2.mono (fun b hb => hT b (hb.imp id fun q => ⟨rfl, q.2⟩)) fun _ q => q⟩
  have hxsl : ∀ tv e l v, CellRel X.T I w (.xsl tv e l) v → Rep TT I.D w (.sl e) l [v] := fun tv e l v hc =>
    hc.2.mono (fun b hb => hT b (hb.imp id fun q => ⟨rfl, q.2⟩)) fun _ q => q
  intro n
  induction n with
  | zero =>
    refine ⟨fun c v u hc e => ?_, fun f all l u e => ?_, fun x vs u ha e => ?_, fun cs vs u ha e => ?_⟩
    · cases c with
      | val tv k x => simp only [sealC] at e; cases e; exact hval tv k x v hc
      | xsl tv k l => simp only [sealC] at e; cases e; exact ⟨rfl, hxsl tv k l v hc⟩
      | hdr k L off len => simp only [sealC] at e; exact sealH_ok h hc e (fun _ q => q) fun o ho b hb => hL L o ho b hb
      | _ => simp [sealC] at e
    · cases l with
      | nil => simp only [sealCaps] at e; cases e; simp [RepCaps]
      | cons B r => simp [sealCaps] at e
    · simp [sealBox] at e
    · cases cs with
      | nil => simp only [sealCs] at e; cases e; cases vs with
        | nil => exact ⟨by simp [Rep], rfl⟩
        | cons v r => exact ha.elim
      | cons c r => simp [sealCs] at e
  | succ n ih =>
    obtain ⟨ih1, ih2, ih3, ih4⟩ := ih
    refine ⟨fun c v u hc e => ?_, fun f all l u e => ?_, fun x vs u ha e => ?_, fun cs vs u ha e => ?_⟩
    · cases c with
      | val tv k x => simp only [sealC] at e; cases e; exact hval tv k x v hc
      | xsl tv k l => simp only [sealC] at e; cases e; exact ⟨rfl, hxsl tv k l v hc⟩
      | hdr k L off len => simp only [sealC] at e; exact sealH_ok h hc e (fun _ q => q) fun o ho b hb => hL L o ho b hb
      | clo f caps =>
        simp only [sealC] at e
        obtain ⟨u1, e1, e2⟩ := bnd_eq e
        cases e2
        refine ⟨rfl, ?_⟩
        have hv : v = .func (.func f) #[] (caps.map fun B => boxPtr (I.γ B)).toArray := hc
        subst hv
        simp only [cloV, Rep]
        exact ⟨_, rfl, ih2 f caps caps u1 e1⟩
      | bref B off =>
        simp only [sealC] at e
        obtain ⟨hoff, e0⟩ := ifB_some e
        simp only [beq_iff_eq] at hoff
        subst hoff
        obtain ⟨x, hx, e1⟩ := bnd_eq e0
        obtain ⟨u1, hu, e2⟩ := bnd_eq e1
        cases e2
        have hv : v = _ := hc
        subst hv
        obtain ⟨hbok, vs, ha, hcs, _⟩ := h.b B x hx
        have hr := ih3 x vs u1 ha hu
        refine ⟨rfl, ?_⟩
        simp only [ptrV, Rep]
        exact ⟨I.γ B, 0, vs, rfl, hB B x hx, hbok.own.lt, rep_length hr, hr, hcs⟩
      | _ => simp [sealC] at e
    · cases l with
      | nil => simp only [sealCaps] at e; cases e; simp [RepCaps]
      | cons B r =>
        simp only [sealCaps] at e
        obtain ⟨x, hx, e1⟩ := bnd_eq e
        obtain ⟨u1, hu, e2⟩ := bnd_eq e1
        obtain ⟨u2, hu2, e3⟩ := bnd_eq e2
        cases e3
        obtain ⟨hbok, vs, ha, hcs, _⟩ := h.b B x hx
        simp only [pairV, RepCaps, List.map_cons]
        refine ⟨I.γ B, vs, _, rfl, hB B x hx, hbok.own.lt, hcs, ?_, ih2 f all r u2 hu2⟩
        rw [ifB_ite] at hu
        split at hu
        · rename_i hself
          cases hu
          left
          refine ⟨rfl, ?_⟩
          unfold selfBox at hself
          split at hself
          · rename_i g caps'
            simp only [Bool.and_eq_true, beq_iff_eq] at hself
            obtain ⟨rfl, rfl⟩ := hself
            match vs, ha with
            | [v], ha => have hv : v = _ := ha.1; rw [hv]
          · cases hself
        · right
          have hr := ih3 x vs u1 ha hu
          exact ⟨rep_length hr, hr⟩
    · obtain ⟨ag, cs⟩ := x
      cases ag with
      | true => simp only [sealBox] at e; exact (ih4 cs vs u ha e).1
      | false =>
        match cs, vs, ha, e with
        | [c], [v], ha, e => simp only [sealBox] at e; exact (ih1 c v u ha.1 e).2
        | [], _, _, e => simp [sealBox] at e
        | _ :: _ :: _, _, _, e => simp [sealBox] at e
    · cases cs with
      | nil => simp only [sealCs] at e; cases e; cases vs with
        | nil => exact ⟨by simp [Rep], rfl⟩
        | cons v r => exact ha.elim
      | cons c r =>
        simp only [sealCs] at e
        obtain ⟨u1, e1, e2⟩ := bnd_eq e
        obtain ⟨u2, e3, e4⟩ := bnd_eq e2
        cases e4
        cases vs with
        | nil => exact ha.elim
        | cons v vr =>
          obtain ⟨h1, h2⟩ := ih1 c v u1 ha.1 e1
          obtain ⟨h3, _⟩ := ih4 r vr u2 ha.2 e3
          refine ⟨?_, rfl⟩
          simp only [pairV, Rep]
          exact ⟨[v], vr, rfl, (size_one h1).symm, h2, h3⟩

theorem sealSV_ok {TT : Nat → Prop} {hint : Kd} {sv : SV} {v : Value} {u : Val} (hcell : ∀ n, (∀ c ∈ sv.cells, ∀ v u, CellRel X.T I w c v → sealC st n c = some u → u.k.isAgg = false ∧ Rep TT I.D w u.k u.x [v]))
    (hv : VR X.T I w sv v) (e : sealSV st hint sv = some u) : VRep TT I.D w u v := by
  unfold sealSV at e
  split at e
  · obtain ⟨u1, e1, e2⟩ := bnd_eq e
    cases e2
    obtain ⟨h1, h2⟩ := hcell _ _ (by simp [SV.cells]) v u1 hv e1
    obtain ⟨r1, r2, _⟩ := coe1_ok (w := w) hint h2
    exact .inr ⟨by rw [r2]; exact h1, r1⟩
  · rename_i cs
    obtain ⟨u1, e1, e2⟩ := bnd_eq e
    cases e2
    obtain ⟨vs, rfl, ha⟩ := hv
    have key : ∀ n cs vs u, (∀ c ∈ cs, ∀ m v u, CellRel X.T I w c v → sealC st m c = some u → u.k.isAgg = false ∧ Rep TT I.D w u.k u.x [v]) → All2 (CellRel X.T I w) cs vs → sealCs st n cs = some u → Rep TT I.D w u.k u.x vs ∧ u.k.isAgg = true := by
      intro n
      induction n with
      | zero =>
        intro cs vs u _ ha e
        cases cs with
        | nil => simp only [sealCs] at e; cases e; cases vs with
          | nil => exact ⟨by simp [Rep], rfl⟩
          | cons v r => exact ha.elim
        | cons c r => simp [sealCs] at e
      | succ n ih =>
        intro cs vs u hc ha e
        cases cs with
        | nil => simp only [sealCs] at e; cases e; cases vs with
          | nil => exact ⟨by simp [Rep], rfl⟩
          | cons v r => exact ha.elim
        | cons c r =>
          simp only [sealCs] at e
          obtain ⟨u1, e1, e2⟩ := bnd_eq e
          obtain ⟨u2, e3, e4⟩ := bnd_eq e2
          cases e4
          cases vs with
          | nil => exact ha.elim
          | cons v vr =>
            obtain ⟨h1, h2⟩ := hc c (by simp) n v u1 ha.1 e1
            obtain ⟨h3, _⟩ := ih r vr u2 (fun c hm => hc c (by simp [hm])) ha.2 e3
            refine ⟨?_, rfl⟩
            simp only [pairV, Rep]
            exact ⟨[v], vr, rfl, (size_one h1).symm, h2, h3⟩
    obtain ⟨h1, h2⟩ := key fuelS cs vs u1 (fun c hc m => hcell m c (by simpa [SV.cells] using hc)) ha e1
    obtain ⟨r1, r2⟩ := coeP_ok (w := w) hint h1
    exact .inl ⟨by rw [r2]; exact h2, vs, rfl, r1⟩
  · cases e

theorem VRep.mono {TT DD TT' DD' : Nat → Prop} {u : Val} {v : Value} (h : VRep TT DD w u v) (hT : ∀ b, TT b → TT' b) (hD : ∀ b, DD b → DD' b) : VRep TT' DD' w u v := by
  rcases h with ⟨h1, vs, hv, hr⟩ | ⟨h1, hr⟩
  · exact .inl ⟨h1, vs, hv, hr.mono hT hD⟩
  · exact .inr ⟨h1, hr.mono hT hD⟩

/-- what a closure's code is handed -/
theorem unpack_ok {TT DD : Nat → Prop} {cl : Val} {v : Value} (hcl : Rep TT DD w cl.k cl.x [v]) : ∀ (k : Kd) (y : k.T) (ps : List Value), RepCaps TT DD w v k y ps → All2 (VRep TT DD w) (unpack cl k y) ps := by
  intro k
  induction k with
  | unit => intro y ps h; simp only [RepCaps] at h; subst h; trivial
  | pair p q _ ihq =>
    intro y ps h
    simp only [RepCaps] at h
    obtain ⟨bk, ecs, r, rfl, ht, hb, hc, hs, hr⟩ := h
    simp only [unpack]
    refine ⟨?_, ihq _ _ hr⟩
    rcases hs with ⟨rfl, rfl⟩ | ⟨hl, hrep⟩
    · simp only [decide_true, ifB_true]
      refine .inr ⟨rfl, ?_⟩
      simp only [Rep]
      exact ⟨bk, 0, [v], rfl, ht, hb, (rep_length hcl), hcl, hc⟩
    · have hne : ¬ p = .self := by rintro rfl; simp [Rep] at hrep
      simp only [hne, decide_false, ifB_false]
      refine .inr ⟨rfl, ?_⟩
      simp only [Rep]
      exact ⟨bk, 0, ecs, rfl, ht, hb, hl, hrep, hc⟩
  | _ => intro y ps h; simp [RepCaps] at h

end Go.Ev
