/- The statement's claim: the card of the second form. -/
import Derived.Test.YtgjinkacngkgdaaDoorULaw1b
import Derived.Test.YtgjinkacngkgdaaDoorUOpen
import Derived.Test.YtgjinkacngkgdaaDoorCards
import Derived.Test.YtgjinkacngkgdaaDoorTie
import Derived.WalkKit
import Derived.ProofKit
import Derived.OpenShut
import Derived.Deep.DeepHandedRow
import Derived.Lib.LaidTab
import Derived.Carry
import Derived.Shelf.Vars
namespace Go.Proofs.YtgjinkacngkgdaaDoor.fc
open Go.Ev Go.ChangeShapes Go.WideShapes Go.ChangeAt Go.RowKit
set_option linter.unusedSimpArgs false
set_option linter.unusedVariables false

theorem own : ownKnob Tryd.prog.godebug = none := by kernel_rfl
theorem under3 : Tryd.prog.underlying 3 = some (.int .i64) := by kernel_rfl
theorem func3 : Tryd.prog.funcs[3]? = some Tryd.f3 := by kernel_rfl
theorem params3 : Tryd.f3.params.toList = [27] := by kernel_rfl

/-! the library's table -/
def Tab (w : World) : Prop := Lib.TabIs Tryd.prog w "internal/strconv.uint64pow10" .u64 Lib.pow10Tab
theorem gTab : Tryd.prog.globalNamed "internal/strconv.uint64pow10" = some 3 := by kernel_rfl
theorem gTabType : (Tryd.prog.globals[3]?).map (·.type) = some 111 := by kernel_rfl
theorem under111 : Tryd.prog.underlying 111 = some (.array 20 98) := by kernel_rfl
theorem under98 : Tryd.prog.underlying 98 = some (.int .u64) := by kernel_rfl
theorem cells111 : Tryd.prog.cellsOf 111 = 20 := by kernel_rfl
theorem cells98 : Tryd.prog.cellsOf 98 = 1 := by kernel_rfl

def Gw (w : World) : Prop := Tab w ∧ ∃ m, w.cell? ⟨0, 0, none⟩ = some (.int .i64 m)

theorem gok : GOk Gw := by
  refine ⟨fun w w' h hs => ⟨?_, ?_⟩, fun w h => h.1, fun w h => h.2⟩
  · have h1 := h.1
    unfold Tab Lib.TabIs World.var? at h1 ⊢
    rw [gTab] at h1 ⊢
    simp only [Option.bind_some] at h1 ⊢
    have hlt : 3 < w.heap.size := by
      rcases Nat.lt_or_ge 3 w.heap.size with h' | h'
      · exact h'
      · rw [Array.getElem?_eq_none h'] at h1; cases h1
    have e : w'.heap[3]? = w.heap[3]? := hs 3 hlt
    rw [e]; exact h1
  · obtain ⟨m, hm⟩ := h.2
    have e : w'.heap[0]? = w.heap[0]? := hs 0 (lt_of_cell hm)
    refine ⟨m, ?_⟩
    unfold World.cell? at hm ⊢
    rw [e]; exact hm

theorem laid_tail {P : Program} {x : String × DataW Unit} {rest : List (String × DataW Unit)} {W : World} (h : laidMet P (x :: rest) W) : laidMet P rest W := by
  obtain ⟨ps, hL, hn, hc⟩ := h
  obtain ⟨g, t, cs, fuel, p, q, h1, h2, h3, h4, h5, rfl⟩ := hL
  exact ⟨q, h5, (List.nodup_append.1 hn).2.1, fun b off hm => hc b off (List.mem_append_right _ hm)⟩

theorem table {W : World} (h : laidMetH Tryd.prog Rows.fnExactFormatClaimUptoRow.laid W) : Tab W := by
  have h0 : laidMet Tryd.prog [("math/bits.deBruijn32tab", Rows.laid_math_bits_deBruijn32tab), ("math/bits.deBruijn64tab", Rows.laid_math_bits_deBruijn64tab), ("internal/strconv.uint64pow10", Rows.laid_internal_strconv_uint64pow10)] W := h
  exact Lib.tabIs_of_head (rest := []) gTab gTabType under111 under98 cells98 cells111 (laid_tail (laid_tail h0))

/-! the argument -/
theorem shape27 : IsSh Tryd.prog (.st (.cons (.int .i64) (.cons (.st (.cons (.int .i64) (.cons (.sl (.int .i64)) .nil))) (.cons .str (.cons (.sl (.int .i64)) (.cons (.sl (.int .i64)) (.cons (.sl (.sl (.int .i64))) .nil))))))) 27 := by
  exact (chk_ok _).1 27 (by kernel_rfl)

/-- what the law asks of its argument holds of whatever is small -/
theorem allL_allI : ∀ {l : List Int}, allL (rangeK (.int .i64)) l = true → allI l = true
  | [], _ => rfl
  | n :: l, h => by
    simp only [allL, Bool.and_eq_true] at h
    simp only [allI, Bool.and_eq_true]
    refine ⟨?_, allL_allI h.2⟩
    have h1 : (Lit.int .i64 n).wf = true := h.1
    exact h1
theorem sizeL_len : ∀ {l : List Int}, l.length ≤ sizeL (sizeK (.int .i64)) l
  | [] => Nat.le_refl _
  | n :: l => by
    have := sizeL_len (l := l)
    show l.length + 1 ≤ 1 + sizeL (sizeK (.int .i64)) l
    omega
theorem allL_allII : ∀ {l : List (List Int)}, allL (rangeK (.sl (.int .i64))) l = true → allII l = true
  | [], _ => rfl
  | a :: l, h => by
    simp only [allL, Bool.and_eq_true] at h
    simp only [allII, Bool.and_eq_true]
    exact ⟨allL_allI h.1, allL_allII h.2⟩
theorem sizeL_sum : ∀ {l : List (List Int)}, sumLen l ≤ sizeL (sizeK (.sl (.int .i64))) l
  | [] => Nat.le_refl _
  | a :: l => by
    have h1 := sizeL_sum (l := l)
    have h2 := sizeL_len (l := a)
    show a.length + 1 + sumLen l ≤ (sizeL (sizeK (.int .i64)) a + 1) + sizeL (sizeK (.sl (.int .i64))) l
    omega
theorem law_ok {x : kC.T} (h1 : rangeK kC x = true) (h2 : sizeK kC x ≤ 1048576) : lawTOk x = true := by
  obtain ⟨kd, s, rows, cls, nums, oths, edgs, u⟩ := x
  have r : (rangeK I64 kd && (rangeK I64 s && (rangeK LI rows && (rangeK .str cls && (rangeK LI nums && (rangeK LI oths && (rangeK LLI edgs && true))))))) = true := h1
  have z : 1 + (1 + ((sizeL (sizeK (.int .i64)) rows + 1) + ((List.length cls + 1) + ((sizeL (sizeK (.int .i64)) nums + 1) + ((sizeL (sizeK (.int .i64)) oths + 1) + ((sizeL (sizeK (.sl (.int .i64))) edgs + 1) + 0)))))) ≤ 1048576 := h2
  simp only [Bool.and_eq_true] at r
  have lr := sizeL_len (l := rows)
  have ln := sizeL_len (l := nums)
  have lo := sizeL_len (l := oths)
  have le := sizeL_sum (l := edgs)
  show lawOk rows cls nums oths edgs = true
  simp only [lawOk, claimOk, Bool.and_eq_true, decide_eq_true_eq]
  refine ⟨by omega, by omega, ⟨allL_allI r.2.2.2.2.1, by omega⟩, ⟨allL_allI r.2.2.2.2.2.1, by omega⟩, allL_allII r.2.2.2.2.2.2.1, by omega⟩

set_option maxRecDepth 100000 in
/-- WHAT THE WALK GIVES, for every argument whose bulk is bounded and every world that holds the table -/
theorem contract (H : Type) (enc : TypeId × Value → H) (W : World) (base : Nat) (args : Array Value) (ds gs : List (DataW H)) (before : List MemPlace)
    (hval : ∀ (j : Nat) t v, Tryd.f3.params[j]? = some t → args[j]? = some v → Value.okWide Tryd.prog W .any base t v)
    (hW : DataW.Whole enc Tryd.prog Tryd.f3.params.toList Rows.fnExactFormatClaimSpec.vars false W args.toList ds gs before) (hk : Rows.uptoSmall H (ds ++ gs) = true)
    (hL : laidMetH Tryd.prog Rows.fnExactFormatClaimUptoRow.laid W) (hsh : ∃ m, W.cell? ⟨0, 0, none⟩ = some (.int .i64 m)) :
    Calls Tryd.prog 3 args W fun e W' => ∃ v, e = .returned v ∧ Rows.fnExactFormatClaimSpec.post enc Tryd.prog Tryd.f3 false true false false W args v W' := by
  have hW' := hW
  obtain ⟨p, q, hA0, hV, rfl, hfz, hnd⟩ := hW
  have hA : DataW.TrodAll enc Tryd.prog W 0 (fun _ => true) true Tryd.f3.params.toList args.toList ds p := hA0
  rw [params3] at hA
  obtain ⟨v0, vs0, d0, ds0, p0, q0, hargs, rfl, rfl, h0, r0⟩ := trodAll_cons hA
  obtain ⟨rfl, rfl, rfl⟩ := trodAll_nil r0
  obtain rfl : args = #[v0] := by cases args; simp_all
  obtain ⟨rfl, rfl⟩ := trodVars_none hV
  have hs27 := shape27
  simp only [IsSh] at hs27
  obtain ⟨fields, hu, _, _⟩ := hs27
  have hv := hval 0 27 v0 (by kernel_rfl) rfl
  unfold Value.okWide at hv
  rw [hu] at hv
  obtain ⟨cs, rfl, _, _⟩ := hv
  have h0' := h0
  obtain ⟨fuel, hf⟩ := h0'
  obtain ⟨x, hx, hr, hz⟩ := (open_sh (enc := enc) (P := Tryd.prog) (w := W) (spare := fun _ => true) (held := true) _).1 27 fuel cs.toList d0 p0 shape27 hf
  have hb : Rows.uptoBulk d0 ≤ 1048576 := by
    have h := of_decide_eq_true hk
    simp only [List.append_nil, Rows.uptoBulkAll] at h
    omega
  have hlaw : lawTOk x = true := law_ok hr (Nat.le_trans hz hb)
  have hV3 : E_l_FnExactFormatClaim.V (x, ()) = some ⟨[(⟨.bool, true⟩, .own)], [none]⟩ := by
    show ifB (lawTOk x) (rB true 1) none = _
    rw [hlaw]; rfl
  have hcon := ok_l_FnExactFormatClaim gok (x, ()) _ hV3
  have hrep : All2 (VRep (topB (Old W) (Old W) true) (Old W) W) (encs [kC] (x, ())) [.agg cs] := by
    refine ⟨.inl ⟨rfl, cs.toList, by simp, ?_⟩, trivial⟩
    exact Rep.mono (w := W) hx (fun b hb => .inl hb) fun b hb => hb
  refine (hcon.run W (Old W) (Old W) [.agg cs] ⟨table hL, hsh⟩ (fun b hb => hb) (fun b hb => hb) hrep).mono ?_
  rintro e W' ⟨vs, D', oss, rfl, hS, hsame, _, _, _, hres, _, _⟩
  obtain ⟨v, rfl, rfl⟩ : ∃ v, vs = [v] ∧ v = .bool true := by
    cases vs with
    | nil => cases oss <;> exact hres.elim
    | cons v vs =>
      cases oss with
      | nil => exact hres.elim
      | cons os oss =>
        have h2 := hres.2
        cases vs with
        | cons _ _ => cases oss <;> exact h2.elim
        | nil =>
          refine ⟨v, rfl, ?_⟩
          rcases (hres.1 : OwnV D' W' ⟨.bool, true⟩ v os) with ⟨h, _⟩ | ⟨_, h⟩
          · cases h
          · cases os with
            | nil => exact h.elim
            | cons bo os =>
              have h1 : bo = none ∧ Kd.isAgg .bool = false ∧ Rep D' D' W' .bool true [v] := h.1
              have h3 := h1.2.2
              simp only [Rep, List.cons.injEq, and_true] at h3
              exact h3
  have hbel : Below W.heap.size W W' := ⟨hS.2.2.1, hS.2.2.2.2, hS.2.2.2.1, hS.1, fun k hk => hsame k hk⟩
  refine ⟨.bool true, rfl, ?_⟩
  have hlt := hW'.lt
  have hargs' : DataW.Trod enc Tryd.prog W' 0 (fun b => decide (b < W.heap.size)) true 27 (.agg cs) d0 p0 :=
    Below.trod (by kernel_rfl) (by kernel_rfl) (of_decide_eq_true (by kernel_rfl)) h0 hbel fun y hy => hlt y (by simp [hy])
  refine ⟨[d0], [], _, [], p0, [], hW', ?_, ?_, ?_, hbel.frame _, fun h => by cases h⟩
  · have u4 : Tryd.prog.underlying 4 = some .bool := by kernel_rfl
    have rt : Tryd.f3.resultTypes.toList = [4] := by kernel_rfl
    rw [rt]
    exact trodAll_cons_mk (shut_bool u4 _) trodAll_mk0
  · show DataW.TrodAll enc Tryd.prog W' 0 (fun b => decide (b < W.heap.size)) true Tryd.f3.params.toList [.agg cs] [d0] p0
    rw [params3]
    exact ⟨p0, [], hargs', rfl, by simp⟩
  · rfl

/-! a world for the witness -/
noncomputable def arg0 : Value := .agg #[.int .i64 0, .int .i64 0, .slice none 0 0, .string ⟨#[]⟩, .slice none 0 0, .slice none 0 0, .slice none 0 0]
def row (cs : Array Value) : Obj → Obj
  | .cells _ t frozen => .cells cs t frozen
  | o => o
noncomputable def laidWorld (os : Os) : World :=
  { World.holding Tryd.prog os ⟨#[], #[], []⟩ with heap := (((World.holding Tryd.prog os ⟨#[], #[], []⟩).heap.modify 3 (row #[.int .u64 1, .int .u64 10, .int .u64 100, .int .u64 1000, .int .u64 10000, .int .u64 100000, .int .u64 1000000, .int .u64 10000000, .int .u64 100000000, .int .u64 1000000000, .int .u64 10000000000, .int .u64 100000000000, .int .u64 1000000000000, .int .u64 10000000000000, .int .u64 100000000000000, .int .u64 1000000000000000, .int .u64 10000000000000000, .int .u64 100000000000000000, .int .u64 1000000000000000000, .int .u64 10000000000000000000])).modify 4 (row #[.int .u8 0, .int .u8 1, .int .u8 28, .int .u8 2, .int .u8 29, .int .u8 14, .int .u8 24, .int .u8 3, .int .u8 30, .int .u8 22, .int .u8 20, .int .u8 15, .int .u8 25, .int .u8 17, .int .u8 4, .int .u8 8, .int .u8 31, .int .u8 27, .int .u8 13, .int .u8 23, .int .u8 21, .int .u8 19, .int .u8 16, .int .u8 7, .int .u8 26, .int .u8 12, .int .u8 18, .int .u8 6, .int .u8 11, .int .u8 5, .int .u8 10, .int .u8 9])).modify 5 (row #[.int .u8 0, .int .u8 1, .int .u8 56, .int .u8 2, .int .u8 57, .int .u8 49, .int .u8 28, .int .u8 3, .int .u8 61, .int .u8 58, .int .u8 42, .int .u8 50, .int .u8 38, .int .u8 29, .int .u8 17, .int .u8 4, .int .u8 62, .int .u8 47, .int .u8 59, .int .u8 36, .int .u8 45, .int .u8 43, .int .u8 51, .int .u8 22, .int .u8 53, .int .u8 39, .int .u8 33, .int .u8 30, .int .u8 24, .int .u8 18, .int .u8 12, .int .u8 5, .int .u8 63, .int .u8 55, .int .u8 48, .int .u8 27, .int .u8 60, .int .u8 41, .int .u8 37, .int .u8 16, .int .u8 46, .int .u8 35, .int .u8 44, .int .u8 21, .int .u8 52, .int .u8 32, .int .u8 23, .int .u8 11, .int .u8 54, .int .u8 26, .int .u8 40, .int .u8 15, .int .u8 34, .int .u8 20, .int .u8 31, .int .u8 10, .int .u8 25, .int .u8 14, .int .u8 19, .int .u8 9, .int .u8 13, .int .u8 8, .int .u8 7, .int .u8 6]) }
theorem laid_met (os : Os) : laidMet Tryd.prog Rows.fnExactFormatClaimUptoRow.laid ((laidWorld os).forCall (fun _ _ => 0) ⟨#[], #[arg0], []⟩).memory :=
  laidMet_of_run' 8 (by kernel_rfl) (by kernel_rfl)
theorem reads (os : Os) {H : Type} (enc : TypeId × Value → H) : ∃ d places, Rows.uptoSmall H [d] = true ∧ DataW.whole enc Tryd.prog ((laidWorld os).forCall (fun _ _ => 0) ⟨#[], #[arg0], []⟩).memory Tryd.f3.params.toList Rows.fnExactFormatClaimSpec.vars false #[arg0].toList 8 = some ([d], [], places) :=
  ⟨.agg [.lit (.int .i64 0), .agg [.lit (.int .i64 0), .nil], .lit (.string []), .nil, .nil, .nil], [], by kernel_rfl, by kernel_rfl⟩

set_option maxRecDepth 100000 in
theorem lifted (os : Os) (started : os.Started) (H : Type) (enc : TypeId × Value → H) (F : Stop.Interp) :
    ReturnsInHanded {} Tryd.checked os 3 .any ((Rows.OpenSpec.upto Rows.fnExactFormatClaimSpec).preRow enc Tryd.prog Tryd.f3 Rows.fnExactFormatClaimUptoRow.domain false Rows.fnExactFormatClaimUptoRow.laid) (((Rows.OpenSpec.upto Rows.fnExactFormatClaimSpec).at F).post enc Tryd.prog Tryd.f3 false true false false) := by
  refine returnsInHanded_of_row (C := Tryd.checked) (s := Rows.OpenSpec.upto Rows.fnExactFormatClaimSpec) own started (by kernel_rfl) func3
    (witness_row_at (enc := enc) (C := Tryd.checked) false (laidWorld os) #[arg0] rfl (by kernel_rfl) (by kernel_rfl) (by kernel_rfl)
      (OpenSpec.preRow_of_cond (x := ([.agg [.lit (.int .i64 0), .agg [.lit (.int .i64 0), .nil], .lit (.string []), .nil, .nil, .nil]], [], [])) 8 (by kernel_rfl) (by kernel_rfl) (fun k hk => by cases hk; kernel_rfl) (by kernel_rfl) (laid_met os))) ?_
  intro W base args ds gs before hval hW _ hcond _ hL hsh _
  exact contract H enc W base args ds gs before hval hW (hcond _ rfl) hL (cell_of_shapedOpen_int (zero := #[.int .i64 0]) (t := 3) hsh (of_decide_eq_true (by kernel_rfl)) (by kernel_rfl) rfl (by kernel_rfl) (by kernel_rfl) under3)

theorem said : Rows.FnExactFormatClaimUptoSaid :=
  OpenClaim.holds_of_cond 3 Tryd.f3 rfl rfl rfl rfl rfl rfl rfl ⟨rfl, rfl, rfl, rfl, rfl⟩ rfl rfl rfl rfl rfl (by kernel_rfl) func3 (by kernel_rfl)
    (of_decide_eq_true (by kernel_rfl)) (by unfold Func.isWrapper; first | (rw [if_pos (by decide +kernel)]; kernel_rfl) | (rw [if_neg (by decide +kernel)]; exact ⟨rfl, rfl⟩))
    (fun os started H enc _ F => by rw [OpenClaim.pre_eq_preRow]; exact lifted os started H enc F)

/-- No parameter wants a stand-in; the program's own looks are off. -/
theorem plain (f : FuncId) (fn : Func) (hf : Tryd.pinned.checked.prog.funcNamed "loop.example/g02081/laws.FnExactFormatClaim" = some f) (hfn : Tryd.pinned.checked.prog.funcs[f]? = some fn) :
    false = Tryd.pinned.checked.prog.looks [] ∧ ∀ (j : Nat) t, fn.params[j]? = some t → Tryd.pinned.checked.prog.wantsStandIn t = false := by
  obtain rfl : f = 3 := Option.some.inj ((show Tryd.prog.funcNamed "loop.example/g02081/laws.FnExactFormatClaim" = some 3 by kernel_rfl).symm.trans hf) |>.symm
  obtain rfl : fn = Tryd.f3 := (Option.some.inj (func3.symm.trans hfn)).symm
  refine ⟨by kernel_rfl, fun j t ht => ?_⟩
  have hp : Tryd.f3.params = #[27] := by kernel_rfl
  rw [hp] at ht
  obtain rfl : t = 27 := by simpa using Array.mem_of_getElem? ht
  exact (show Tryd.prog.wantsStandIn 27 = false by kernel_rfl)

/-- THE CARD OF THE SECOND FORM: the program's FormatClaim hands back what the reference's hands back, wherever the argument's bulk is at most 1048576. -/
theorem holds : Rows.FnExactFormatClaimUptoCardSaid :=
  Claim7.holds_tied_plain_at .later [] _ _ _ _ said (fun _ h => by cases h) (by kernel_rfl) (fun _ h => by cases h) fnExactFormatClaimUpto_row_tie rfl ⟨rfl, rfl⟩ (by kernel_rfl) rfl plain (by kernel_rfl)
#print axioms holds
end Go.Proofs.YtgjinkacngkgdaaDoor.fc
namespace Go.Ev
end Go.Ev
