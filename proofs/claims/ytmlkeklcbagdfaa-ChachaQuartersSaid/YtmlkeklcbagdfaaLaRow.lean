/- The statement ChachaQuarters: the law answers true at every input, and leaves what it was handed as it was. -/
import Derived.Test.YtmlkeklcbagdfaaRows
import Derived.Test.YtmlkeklcbagdfaaLaOwn
import Derived.WalkKit
import Derived.ProofKit
import Derived.OpenShut
import Derived.ShutString
import Derived.ChangeOld
import Derived.Below
import Derived.SizedLaws
import Derived.SliceStrings
import Derived.Carry
import Derived.Lib.SmallJoins
set_option linter.unusedVariables false
set_option linter.unusedSimpArgs false
set_option maxRecDepth 100000
namespace Go.Proofs.Ytmlkeklcbagdfaa.chachaQuarters
open Go.ChangeShapes Go.WideShapes Go.ChangeAt Go.RowKit
open Go.ChangeMaps (open_string shut_string)
theorem own : ownKnob Try.prog.godebug = none := by kernel_rfl
theorem laid : laidOutB Try.prog = true := by kernel_rfl
theorem lifted (os : Os) (started : os.Started) (H : Type) (enc : TypeId × Value → H) :
    ReturnsInHanded {} Try.checked os 3 .any (Rows.chachaQuartersSpec.pre6 enc Try.prog Try.f3 Rows.chachaQuartersRow.domain false) (Rows.chachaQuartersSpec.post enc Try.prog Try.f3 false true false false) := by
  refine returnsInHanded_of_change_sized (C := Try.checked) own started (by kernel_rfl) Try.func3
    (ChangeSpec.witness6 (enc := enc) (C := Try.checked) false ⟨#[], #[.agg #[.int .u32 0, .int .u32 0, .int .u32 0, .int .u32 0]], []⟩ 8 (by kernel_rfl) (by kernel_rfl) (by kernel_rfl) (by kernel_rfl)) ?_
  intro W base args ds gs before hval0 hW hcnd hsz0 _
  have hsz : (DataW.weightsEach Try.prog (Try.f3.params.toList ++ Rows.chachaQuartersSpec.plain.varTypes Try.prog) (ds ++ gs)).all (· ≤ reachBytes) = true := hsz0
  have hval : ∀ (j : Nat) t v, Try.f3.params[j]? = some t → args[j]? = some v → Value.okWide Try.prog W .any base t v := hval0
  have hW' := hW
  obtain ⟨p, q, hA0, hV, rfl, hfz, hnd⟩ := hW
  have hA : DataW.TrodAll enc Try.prog W 0 (fun _ => true) true Try.f3.params.toList args.toList ds p := hA0
  rw [Try.params3] at hA hval hsz
  obtain ⟨v0, vs0, d0, ds0, p0, q0, hargs, rfl, rfl, h0, r0⟩ := trodAll_cons hA
  obtain ⟨rfl, rfl, rfl⟩ := trodAll_nil r0
  obtain rfl : args = #[v0] := by cases args; simp_all
  obtain ⟨rfl, rfl⟩ := trodVars_none hV
  have k0 := h0
  obtain ⟨cs0, rfl, hcs0⟩ := Abs.okWide_arr Try.underlying23 (hval 0 23 v0 rfl rfl)
  obtain ⟨fu0, hf0⟩ := h0
  obtain ⟨xs0, m0, rfl, hx0, hl0, hn0, he0⟩ := DataW.trod_array Try.underlying23 hf0
  have ce0 : Try.prog.cellsOf 22 = 1 := by kernel_rfl
  have ct0 : Try.prog.cellsOf 23 = 4 := by kernel_rfl
  simp only [Value.cells, ce0, ct0, Nat.mul_one] at hl0 he0
  have hj0_0 := he0 0 (by decide)
  rw [List.getElem?_eq_getElem (show 0 < xs0.length by omega)] at hj0_0
  obtain ⟨a0_0, x0_0, y0_0, w0_0⟩ := DataW.trod_int Try.underlying22 hj0_0
  have hj0_1 := he0 1 (by decide)
  rw [List.getElem?_eq_getElem (show 1 < xs0.length by omega)] at hj0_1
  obtain ⟨a0_1, x0_1, y0_1, w0_1⟩ := DataW.trod_int Try.underlying22 hj0_1
  have hj0_2 := he0 2 (by decide)
  rw [List.getElem?_eq_getElem (show 2 < xs0.length by omega)] at hj0_2
  obtain ⟨a0_2, x0_2, y0_2, w0_2⟩ := DataW.trod_int Try.underlying22 hj0_2
  have hj0_3 := he0 3 (by decide)
  rw [List.getElem?_eq_getElem (show 3 < xs0.length by omega)] at hj0_3
  obtain ⟨a0_3, x0_3, y0_3, w0_3⟩ := DataW.trod_int Try.underlying22 hj0_3
  obtain rfl : cs0 = #[.int .u32 a0_0, .int .u32 a0_1, .int .u32 a0_2, .int .u32 a0_3] := by
    refine Array.toList_inj.1 (Abs.list_of_pieces hl0 ?_)
    intro j hj
    match j, hj with
    | 0, _ => exact x0_0
    | 1, _ => exact x0_1
    | 2, _ => exact x0_2
    | 3, _ => exact x0_3
  have hlt0 : ∀ x ∈ p0, x.block < W.heap.size := fun x hx => by
    have := hW'.lt x (by simp [hx])
    simpa using this
  have fin : ∀ e W', (e = Ending.returned (.bool true) ∧ Below W.heap.size W W') → ∃ v, e = Ending.returned v ∧ Rows.chachaQuartersSpec.post enc Try.checked.prog Try.f3 false true false false W #[.agg #[.int .u32 a0_0, .int .u32 a0_1, .int .u32 a0_2, .int .u32 a0_3]] v W' := by
    intro e W' ⟨he, bel⟩
    subst he
    exact ⟨_, rfl, _, _, _, [], _, [], hW', trodAll_mk1 (shut_bool Try.underlying4 _), (trodAll_cons_mk (Below.trod laid (by kernel_rfl) (of_decide_eq_true (by kernel_rfl)) k0 bel hlt0) trodAll_mk0), rfl, bel.frame _, fun h => by cases h⟩
  clear hA0 hval0 hsz0 hsz
  have R := Abs.Rel.nil W
  have ro := Abs.RoH.nil
  exact ((Abs.Seg05.quarters_row a0_0 w0_0 a0_1 w0_1 a0_2 w0_2 a0_3 w0_3).below ro (by simp [Abs.Flat, Abs.Flat2, Abs.Flat1]) R (.cons ((Abs.V_flat (by simp [Abs.Flat, Abs.Flat2, Abs.Flat1, Abs.Row.cells])).2 rfl) .nil)).mono fin
theorem over : Rows.chachaQuartersRow.holds Try.pinned (OpenSpec.ofChange Rows.chachaQuartersSpec) :=
  OpenClaim.holds_of_wide 3 Try.f3 rfl rfl rfl rfl rfl rfl rfl ⟨rfl, rfl, rfl, rfl, rfl⟩ rfl rfl rfl rfl rfl (by kernel_rfl) Try.func3 (by kernel_rfl)
    (of_decide_eq_true (by kernel_rfl)) (by unfold Func.isWrapper; first | (rw [if_pos (by decide +kernel)]; kernel_rfl) | (rw [if_neg (by decide +kernel)]; exact ⟨rfl, rfl⟩))
    (fun os started H enc _ => lifted os started H enc)
theorem proved : Rows.ChachaQuartersSaid := over
#print axioms proved
end Go.Proofs.Ytmlkeklcbagdfaa.chachaQuarters
namespace Go.Proofs.Ytmlkeklcbagdfaa
/-- The given statement. -/
theorem chachaQuarters_holds : Rows.ChachaQuartersSaid := chachaQuarters.proved
end Go.Proofs.Ytmlkeklcbagdfaa
