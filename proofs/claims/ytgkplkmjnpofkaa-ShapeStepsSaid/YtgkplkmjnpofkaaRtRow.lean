/- The statement ShapeSteps: the law answers true at every input, and leaves what it was handed as it was. -/
import Derived.Test.YtgkplkmjnpofkaaRows
import Derived.Test.YtgkplkmjnpofkaaLtOwn
import Derived.WalkKit
import Derived.ProofKit
import Derived.OpenShut
import Derived.ShutString
import Derived.ChangeOld
import Derived.Below
import Derived.SizedLaws
import Derived.SliceStrings
import Derived.Carry
import Derived.Lib.SmallJoins
set_option linter.unusedVariables false
set_option linter.unusedSimpArgs false
set_option maxRecDepth 100000
namespace Go.Proofs.Ytgkplkmjnpofkaa.shapeSteps
open Go.ChangeShapes Go.WideShapes Go.ChangeAt Go.RowKit
open Go.ChangeMaps (open_string shut_string)
theorem own : ownKnob Try.prog.godebug = none := by kernel_rfl
theorem laid : laidOutB Try.prog = true := by kernel_rfl
theorem lifted (os : Os) (started : os.Started) (H : Type) (enc : TypeId × Value → H) :
    ReturnsInHanded {} Try.checked os 7 .any (Rows.shapeStepsSpec.pre6 enc Try.prog Try.f7 Rows.shapeStepsRow.domain false) (Rows.shapeStepsSpec.post enc Try.prog Try.f7 false true false false) := by
  refine returnsInHanded_of_change_sized (C := Try.checked) own started (by kernel_rfl) Try.func7
    (ChangeSpec.witness6 (enc := enc) (C := Try.checked) false ⟨#[], #[.agg #[.string ByteArray.empty, .string ByteArray.empty], .agg #[.string ByteArray.empty, .string ByteArray.empty], .slice none 0 0], []⟩ 8 (by kernel_rfl) (by kernel_rfl) (by kernel_rfl) (by kernel_rfl)) ?_
  intro W base args ds gs before hval0 hW hcnd hsz0 _
  have hsz : (DataW.weightsEach Try.prog (Try.f7.params.toList ++ Rows.shapeStepsSpec.plain.varTypes Try.prog) (ds ++ gs)).all (· ≤ reachBytes) = true := hsz0
  have hval : ∀ (j : Nat) t v, Try.f7.params[j]? = some t → args[j]? = some v → Value.okWide Try.prog W .any base t v := hval0
  have hW' := hW
  obtain ⟨p, q, hA0, hV, rfl, hfz, hnd⟩ := hW
  have hA : DataW.TrodAll enc Try.prog W 0 (fun _ => true) true Try.f7.params.toList args.toList ds p := hA0
  rw [Try.params7] at hA hval hsz
  obtain ⟨v0, vs0, d0, ds0, p0, q0, hargs, rfl, rfl, h0, r0⟩ := trodAll_cons hA
  obtain ⟨v1, vs1, d1, ds1, p1, q1, rfl, rfl, rfl, h1, r1⟩ := trodAll_cons r0
  obtain ⟨v2, vs2, d2, ds2, p2, q2, rfl, rfl, rfl, h2, r2⟩ := trodAll_cons r1
  obtain ⟨rfl, rfl, rfl⟩ := trodAll_nil r2
  obtain rfl : args = #[v0, v1, v2] := by cases args; simp_all
  obtain ⟨rfl, rfl⟩ := trodVars_none hV
  have k0 := h0
  obtain ⟨cs0, rfl, hcs0⟩ := Abs.okWide_arr Try.underlying40 (hval 0 40 v0 rfl rfl)
  obtain ⟨fu0, hf0⟩ := h0
  obtain ⟨xs0, m0, rfl, hx0, hl0, hn0, he0⟩ := DataW.trod_array Try.underlying40 hf0
  have ce0 : Try.prog.cellsOf 9 = 1 := by kernel_rfl
  have ct0 : Try.prog.cellsOf 40 = 2 := by kernel_rfl
  simp only [Value.cells, ce0, ct0, Nat.mul_one] at hl0 he0
  have hj0_0 := he0 0 (by decide)
  rw [List.getElem?_eq_getElem (show 0 < xs0.length by omega)] at hj0_0
  obtain ⟨a0_0, x0_0, y0_0, w0_0⟩ := DataW.trod_string Try.underlying9 hj0_0
  have hj0_1 := he0 1 (by decide)
  rw [List.getElem?_eq_getElem (show 1 < xs0.length by omega)] at hj0_1
  obtain ⟨a0_1, x0_1, y0_1, w0_1⟩ := DataW.trod_string Try.underlying9 hj0_1
  obtain rfl : cs0 = #[.string a0_0, .string a0_1] := by
    refine Array.toList_inj.1 (Abs.list_of_pieces hl0 ?_)
    intro j hj
    match j, hj with
    | 0, _ => exact x0_0
    | 1, _ => exact x0_1
  have k1 := h1
  obtain ⟨cs1, rfl, hcs1⟩ := Abs.okWide_arr Try.underlying40 (hval 1 40 v1 rfl rfl)
  obtain ⟨fu1, hf1⟩ := h1
  obtain ⟨xs1, m1, rfl, hx1, hl1, hn1, he1⟩ := DataW.trod_array Try.underlying40 hf1
  have ce1 : Try.prog.cellsOf 9 = 1 := by kernel_rfl
  have ct1 : Try.prog.cellsOf 40 = 2 := by kernel_rfl
  simp only [Value.cells, ce1, ct1, Nat.mul_one] at hl1 he1
  have hj1_0 := he1 0 (by decide)
  rw [List.getElem?_eq_getElem (show 0 < xs1.length by omega)] at hj1_0
  obtain ⟨a1_0, x1_0, y1_0, w1_0⟩ := DataW.trod_string Try.underlying9 hj1_0
  have hj1_1 := he1 1 (by decide)
  rw [List.getElem?_eq_getElem (show 1 < xs1.length by omega)] at hj1_1
  obtain ⟨a1_1, x1_1, y1_1, w1_1⟩ := DataW.trod_string Try.underlying9 hj1_1
  obtain rfl : cs1 = #[.string a1_0, .string a1_1] := by
    refine Array.toList_inj.1 (Abs.list_of_pieces hl1 ?_)
    intro j hj
    match j, hj with
    | 0, _ => exact x1_0
    | 1, _ => exact x1_1
  obtain ⟨b2, l2, c2, rfl⟩ := okWide_slice Try.underlying22 (hval 2 22 v2 rfl rfl)
  have k2 := h2
  obtain ⟨fu2, hf2⟩ := h2
  have ok2 := hval 2 22 _ rfl rfl
  have hlt0 : ∀ x ∈ p0, x.block < W.heap.size := fun x hx => by
    have := hW'.lt x (by simp [hx])
    simpa using this
  have hlt1 : ∀ x ∈ p1, x.block < W.heap.size := fun x hx => by
    have := hW'.lt x (by simp [hx])
    simpa using this
  have hlt2 : ∀ x ∈ p2, x.block < W.heap.size := fun x hx => by
    have := hW'.lt x (by simp [hx])
    simpa using this
  have fin : ∀ e W', (e = Ending.returned (.bool true) ∧ Below W.heap.size W W') → ∃ v, e = Ending.returned v ∧ Rows.shapeStepsSpec.post enc Try.checked.prog Try.f7 false true false false W #[.agg #[.string a0_0, .string a0_1], .agg #[.string a1_0, .string a1_1], .slice b2 l2 c2] v W' := by
    intro e W' ⟨he, bel⟩
    subst he
    exact ⟨_, rfl, _, _, _, [], _, [], hW', trodAll_mk1 (shut_bool Try.underlying4 _), (trodAll_cons_mk (Below.trod laid (by kernel_rfl) (of_decide_eq_true (by kernel_rfl)) k0 bel hlt0) (trodAll_cons_mk (Below.trod laid (by kernel_rfl) (of_decide_eq_true (by kernel_rfl)) k1 bel hlt1) (trodAll_cons_mk (Below.trod laid (by kernel_rfl) (of_decide_eq_true (by kernel_rfl)) k2 bel hlt2) trodAll_mk0))), rfl, bel.frame _, fun h => by cases h⟩
  clear hA0 hval0 hsz0 hsz
  have R := Abs.Rel.nil W
  have ro := Abs.RoH.nil
  obtain ⟨ss2, β2, bd2, sz2, le2, R2, V2⟩ := Abs.strings_in R ro Try.underlying22 Try.underlying9 (by kernel_rfl) rfl (fun a ea => by
    subst ea
    have := ok2
    simp only [Value.okWide, Try.underlying22, Cell.okWide, Cell.ok, World.has] at this
    exact this.2.2.2.1) hf2
  have ro2 := ro.push 9 (.strs ss2)
  exact ((Abs.Seg06.steps_row a0_0 w0_0 a0_1 w0_1 a1_0 w1_0 a1_1 w1_1 ss2 bd2).below ro2 (by simp [Abs.Flat, Abs.Flat2, Abs.Flat1]) R2 (.cons ((Abs.V_flat (by simp [Abs.Flat, Abs.Flat2, Abs.Flat1, Abs.Row.cells])).2 rfl) (.cons ((Abs.V_flat (by simp [Abs.Flat, Abs.Flat2, Abs.Flat1, Abs.Row.cells])).2 rfl) (.cons V2 .nil)))).mono fin
theorem over : Rows.shapeStepsRow.holds Try.pinned (OpenSpec.ofChange Rows.shapeStepsSpec) :=
  OpenClaim.holds_of_wide 7 Try.f7 rfl rfl rfl rfl rfl rfl rfl ⟨rfl, rfl, rfl, rfl, rfl⟩ rfl rfl rfl rfl rfl (by kernel_rfl) Try.func7 (by kernel_rfl)
    (of_decide_eq_true (by kernel_rfl)) (by unfold Func.isWrapper; first | (rw [if_pos (by decide +kernel)]; kernel_rfl) | (rw [if_neg (by decide +kernel)]; exact ⟨rfl, rfl⟩))
    (fun os started H enc _ => lifted os started H enc)
theorem proved : Rows.ShapeStepsSaid := over
#print axioms proved
end Go.Proofs.Ytgkplkmjnpofkaa.shapeSteps
namespace Go.Proofs.Ytgkplkmjnpofkaa
/-- The given statement. -/
theorem shapeSteps_holds : Rows.ShapeStepsSaid := shapeSteps.proved
end Go.Proofs.Ytgkplkmjnpofkaa
