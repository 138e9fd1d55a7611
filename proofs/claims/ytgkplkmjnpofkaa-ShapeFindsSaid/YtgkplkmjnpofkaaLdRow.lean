/- The statement ShapeFinds: the law answers true at every input, and leaves what it was handed as it was. -/
import Derived.Test.YtgkplkmjnpofkaaRows
import Derived.Test.YtgkplkmjnpofkaaLdOwn
import Derived.WalkKit
import Derived.ProofKit
import Derived.OpenShut
import Derived.ShutString
import Derived.ChangeOld
import Derived.Below
import Derived.SizedLaws
import Derived.SliceStrings
import Derived.Carry
set_option linter.unusedVariables false
set_option linter.unusedSimpArgs false
set_option maxRecDepth 100000
namespace Go.Proofs.Ytgkplkmjnpofkaa.shapeFinds
open Go.ChangeShapes Go.WideShapes Go.ChangeAt Go.RowKit
open Go.ChangeMaps (open_string shut_string)
theorem own : ownKnob Try.prog.godebug = none := by kernel_rfl
theorem laid : laidOutB Try.prog = true := by kernel_rfl
theorem lifted (os : Os) (started : os.Started) (H : Type) (enc : TypeId × Value → H) :
    ReturnsInHanded {} Try.checked os 3 .any (Rows.shapeFindsSpec.pre6 enc Try.prog Try.f3 Rows.shapeFindsRow.domain false) (Rows.shapeFindsSpec.post enc Try.prog Try.f3 false true false false) := by
  refine returnsInHanded_of_change_sized (C := Try.checked) own started (by kernel_rfl) Try.func3
    (ChangeSpec.witness6 (enc := enc) (C := Try.checked) false ⟨#[], #[.slice none 0 0, .string ByteArray.empty], []⟩ 8 (by kernel_rfl) (by kernel_rfl) (by kernel_rfl) (by kernel_rfl)) ?_
  intro W base args ds gs before hval0 hW hcnd hsz0 _
  have hsz : (DataW.weightsEach Try.prog (Try.f3.params.toList ++ Rows.shapeFindsSpec.plain.varTypes Try.prog) (ds ++ gs)).all (· ≤ reachBytes) = true := hsz0
  have hval : ∀ (j : Nat) t v, Try.f3.params[j]? = some t → args[j]? = some v → Value.okWide Try.prog W .any base t v := hval0
  have hW' := hW
  obtain ⟨p, q, hA0, hV, rfl, hfz, hnd⟩ := hW
  have hA : DataW.TrodAll enc Try.prog W 0 (fun _ => true) true Try.f3.params.toList args.toList ds p := hA0
  rw [Try.params3] at hA hval hsz
  obtain ⟨v0, vs0, d0, ds0, p0, q0, hargs, rfl, rfl, h0, r0⟩ := trodAll_cons hA
  obtain ⟨v1, vs1, d1, ds1, p1, q1, rfl, rfl, rfl, h1, r1⟩ := trodAll_cons r0
  obtain ⟨rfl, rfl, rfl⟩ := trodAll_nil r1
  obtain rfl : args = #[v0, v1] := by cases args; simp_all
  obtain ⟨rfl, rfl⟩ := trodVars_none hV
  obtain ⟨b0, l0, c0, rfl⟩ := okWide_slice Try.underlying22 (hval 0 22 v0 rfl rfl)
  have k0 := h0
  obtain ⟨fu0, hf0⟩ := h0
  have ok0 := hval 0 22 _ rfl rfl
  obtain ⟨a1, rfl, rfl, rfl, y1⟩ := open_string Try.underlying9 (hval 1 9 v1 rfl rfl) h1
  have w1 : a1.size ≤ 140737488351232 := by
    have z := sized_string hsz (j := 1) (t := 9) rfl rfl
    rw [Array.length_toList] at z
    exact z
  have hlt0 : ∀ x ∈ p0, x.block < W.heap.size := fun x hx => by
    have := hW'.lt x (by simp [hx])
    simpa using this
  have fin : ∀ e W', (e = Ending.returned (.bool true) ∧ Below W.heap.size W W') → ∃ v, e = Ending.returned v ∧ Rows.shapeFindsSpec.post enc Try.checked.prog Try.f3 false true false false W #[.slice b0 l0 c0, .string a1] v W' := by
    intro e W' ⟨he, bel⟩
    subst he
    exact ⟨_, rfl, _, _, _, [], _, [], hW', trodAll_mk1 (shut_bool Try.underlying4 _), (trodAll_cons_mk (Below.trod laid (by kernel_rfl) (of_decide_eq_true (by kernel_rfl)) k0 bel hlt0) (trodAll_cons_mk (shut_string Try.underlying9 y1) trodAll_mk0)), rfl, bel.frame _, fun h => by cases h⟩
  clear hA0 hval0
  rcases open_strings Try.underlying22 Try.underlying9 (by kernel_rfl) hf0 with ⟨hcs, hx⟩ | ⟨a, len', cap', ss, hcs, _, hl, hm, hz, hx, hcell, hws⟩
  · simp [Value.cells] at hcs
    obtain ⟨rfl, rfl, rfl⟩ := hcs
    obtain ⟨β, hR, hv⟩ := Abs.nil_in (W := W) (ty := 9) (R := .strs []) rfl
    exact ((Abs.Seg06.finds_row [] (by simp) a1 w1).below (by intro κ B h; cases κ <;> simp at h; rw [← h]) (by simp [Abs.Flat, Abs.Flat2, Abs.Flat1]) hR (.cons hv (.cons ((Abs.V_flat (by simp [Abs.Flat, Abs.Flat2, Abs.Flat1])).2 rfl) .nil))).mono fin
  · simp [Value.cells] at hcs
    obtain ⟨rfl, rfl, rfl⟩ := hcs
    simp only [if_true] at hz
    have sp : a.spot = none := by
      simp only [Value.okWide, Try.underlying22, Cell.okWide, Cell.ok, World.has] at ok0
      exact ok0.2.2.2.1
    obtain ⟨β, hR, hv⟩ := Abs.list_in (W := W) (a := a) (len := l0) (cap := c0) (ty := 9) (R := .strs (ss.take l0)) sp (by simp [Abs.Row.len]; omega) (by
      intro j v hj
      simp only [Abs.Row.cells, List.getElem?_map, List.getElem?_take] at hj
      split at hj
      · rename_i hjl
        have hjs : j < ss.length := by omega
        rw [List.getElem?_eq_getElem hjs] at hj
        simp at hj; subst hj
        have := hcell j hjs
        rwa [List.getD_eq_getElem?_getD, List.getElem?_eq_getElem hjs] at this
      · simp at hj) (by
      intro v hv
      obtain ⟨x, _, rfl⟩ := List.mem_map.1 hv
      rfl) hl
    have bd : (ss.take l0).length ≤ 9223372036854775807 := by
      have : maxLen = 9223372036854775807 := by decide
      simp only [List.length_take]; omega
    exact ((Abs.Seg06.finds_row (ss.take l0) bd a1 w1).below (by intro κ B h; cases κ <;> simp at h; rw [← h]) (by simp [Abs.Flat, Abs.Flat2, Abs.Flat1]) hR (.cons hv (.cons ((Abs.V_flat (by simp [Abs.Flat, Abs.Flat2, Abs.Flat1])).2 rfl) .nil))).mono fin
theorem over : Rows.shapeFindsRow.holds Try.pinned (OpenSpec.ofChange Rows.shapeFindsSpec) :=
  OpenClaim.holds_of_wide 3 Try.f3 rfl rfl rfl rfl rfl rfl rfl ⟨rfl, rfl, rfl, rfl, rfl⟩ rfl rfl rfl rfl rfl (by kernel_rfl) Try.func3 (by kernel_rfl)
    (of_decide_eq_true (by kernel_rfl)) (by unfold Func.isWrapper; first | (rw [if_pos (by decide +kernel)]; kernel_rfl) | (rw [if_neg (by decide +kernel)]; exact ⟨rfl, rfl⟩))
    (fun os started H enc _ => lifted os started H enc)
theorem proved : Rows.ShapeFindsSaid := over
#print axioms proved
end Go.Proofs.Ytgkplkmjnpofkaa.shapeFinds
namespace Go.Proofs.Ytgkplkmjnpofkaa
/-- The given statement. -/
theorem shapeFinds_holds : Rows.ShapeFindsSaid := shapeFinds.proved
end Go.Proofs.Ytgkplkmjnpofkaa
