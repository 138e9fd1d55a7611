/- What each stretch of the functions' code does, printed by a program of this session and checked by Lean's kernel. -/
import Derived.Test.YtgedgcbljfmpaaaChecked
import Derived.Test.YtgedgcbljfmpaaaAbsB
set_option linter.unusedVariables false
set_option linter.unusedSimpArgs false
set_option maxRecDepth 100000
namespace Go.Proofs.Ytgedgcbljfmpaaa.Abs.Seg07
open Go Go.RowKit Go.Proofs Go.Proofs.Ytgedgcbljfmpaaa.Abs

noncomputable def θ : Types := [
  (3, ⟨.int .i64, 1, 8, .ints .i64 ([0])⟩),
  (4, ⟨.bool, 1, 1, .vals [.bool false]⟩),
  (5, ⟨.int .u8, 1, 1, .ints .u8 ([0])⟩),
  (9, ⟨.str, 1, 16, .strs ([ByteArray.empty])⟩),
  (22, ⟨.int .i64, 1, 8, .ints .i64 ([0])⟩),
  (42, ⟨.slice 5, 1, 24, .vals [.slice none 0 0]⟩),
  (44, ⟨.arr 256 3, 256, 2048, .ints .i64 (List.replicate 256 0)⟩),
  (45, ⟨.arr 2 44, 512, 4096, .vals [.int .i64 0, .int .i64 0, .int .i64 0, .int .i64 0, .int .i64 0, .int .i64 0, .int .i64 0, .int .i64 0, .int .i64 0, .int .i64 0, .int .i64 0, .int .i64 0, .int .i64 0, .int .i64 0, .int .i64 0, .int .i64 0, .int .i64 0, .int .i64 0, .int .i64 0, .int .i64 0, .int .i64 0, .int .i64 0, .int .i64 0, .int .i64 0, .int .i64 0, .int .i64 0, .int .i64 0, .int .i64 0, .int .i64 0, .int .i64 0, .int .i64 0, .int .i64 0, .int .i64 0, .int .i64 0, .int .i64 0, .int .i64 0, .int .i64 0, .int .i64 0, .int .i64 0, .int .i64 0, .int .i64 0, .int .i64 0, .int .i64 0, .int .i64 0, .int .i64 0, .int .i64 0, .int .i64 0, .int .i64 0, .int .i64 0, .int .i64 0, .int .i64 0, .int .i64 0, .int .i64 0, .int .i64 0, .int .i64 0, .int .i64 0, .int .i64 0, .int .i64 0, .int .i64 0, .int .i64 0, .int .i64 0, .int .i64 0, .int .i64 0, .int .i64 0, .int .i64 0, .int .i64 0, .int .i64 0, .int .i64 0, .int .i64 0, .int .i64 0, .int .i64 0, .int .i64 0, .int .i64 0, .int .i64 0, .int .i64 0, .int .i64 0, .int .i64 0, .int .i64 0, .int .i64 0, .int .i64 0, .int .i64 0, .int .i64 0, .int .i64 0, .int .i64 0, .int .i64 0, .int .i64 0, .int .i64 0, .int .i64 0, .int .i64 0, .int .i64 0, .int .i64 0, .int .i64 0, .int .i64 0, .int .i64 0, .int .i64 0, .int .i64 0, .int .i64 0, .int .i64 0, .int .i64 0, .int .i64 0, .int .i64 0, .int .i64 0, .int .i64 0, .int .i64 0, .int .i64 0, .int .i64 0, .int .i64 0, .int .i64 0, .int .i64 0, .int .i64 0, .int .i64 0, .int .i64 0, .int .i64 0, .int .i64 0, .int .i64 0, .int .i64 0, .int .i64 0, .int .i64 0, .int .i64 0, .int .i64 0, .int .i64 0, .int .i64 0, .int .i64 0, .int .i64 0, .int .i64 0, .int .i64 0, .int .i64 0, .int .i64 0, .int .i64 0, .int .i64 0, .int .i64 0, .int .i64 0, .int .i64 0, .int .i64 0, .int .i64 0, .int .i64 0, .int .i64 0, .int .i64 0, .int .i64 0, .int .i64 0, .int .i64 0, .int .i64 0, .int .i64 0, .int .i64 0, .int .i64 0, .int .i64 0, .int .i64 0, .int .i64 0, .int .i64 0, .int .i64 0, .int .i64 0, .int .i64 0, .int .i64 0, .int .i64 0, .int .i64 0, .int .i64 0, .int .i64 0, .int .i64 0, .int .i64 0, .int .i64 0, .int .i64 0, .int .i64 0, .int .i64 0, .int .i64 0, .int .i64 0, .int .i64 0, .int .i64 0, .int .i64 0, .int .i64 0, .int .i64 0, .int .i64 0, .int .i64 0, .int .i64 0, .int .i64 0, .int .i64 0, .int .i64 0, .int .i64 0, .int .i64 0, .int .i64 0, .int .i64 0, .int .i64 0, .int .i64 0, .int .i64 0, .int .i64 0, .int .i64 0, .int .i64 0, .int .i64 0, .int .i64 0, .int .i64 0, .int .i64 0, .int .i64 0, .int .i64 0, .int .i64 0, .int .i64 0, .int .i64 0, .int .i64 0, .int .i64 0, .int .i64 0, .int .i64 0, .int .i64 0, .int .i64 0, .int .i64 0, .int .i64 0, .int .i64 0, .int .i64 0, .int .i64 0, .int .i64 0, .int .i64 0, .int .i64 0, .int .i64 0, .int .i64 0, .int .i64 0, .int .i64 0, .int .i64 0, .int .i64 0, .int .i64 0, .int .i64 0, .int .i64 0, .int .i64 0, .int .i64 0, .int .i64 0, .int .i64 0, .int .i64 0, .int .i64 0, .int .i64 0, .int .i64 0, .int .i64 0, .int .i64 0, .int .i64 0, .int .i64 0, .int .i64 0, .int .i64 0, .int .i64 0, .int .i64 0, .int .i64 0, .int .i64 0, .int .i64 0, .int .i64 0, .int .i64 0, .int .i64 0, .int .i64 0, .int .i64 0, .int .i64 0, .int .i64 0, .int .i64 0, .int .i64 0, .int .i64 0, .int .i64 0, .int .i64 0, .int .i64 0, .int .i64 0, .int .i64 0, .int .i64 0, .int .i64 0, .int .i64 0, .int .i64 0, .int .i64 0, .int .i64 0, .int .i64 0, .int .i64 0, .int .i64 0, .int .i64 0, .int .i64 0, .int .i64 0, .int .i64 0, .int .i64 0, .int .i64 0, .int .i64 0, .int .i64 0, .int .i64 0, .int .i64 0, .int .i64 0, .int .i64 0, .int .i64 0, .int .i64 0, .int .i64 0, .int .i64 0, .int .i64 0, .int .i64 0, .int .i64 0, .int .i64 0, .int .i64 0, .int .i64 0, .int .i64 0, .int .i64 0, .int .i64 0, .int .i64 0, .int .i64 0, .int .i64 0, .int .i64 0, .int .i64 0, .int .i64 0, .int .i64 0, .int .i64 0, .int .i64 0, .int .i64 0, .int .i64 0, .int .i64 0, .int .i64 0, .int .i64 0, .int .i64 0, .int .i64 0, .int .i64 0, .int .i64 0, .int .i64 0, .int .i64 0, .int .i64 0, .int .i64 0, .int .i64 0, .int .i64 0, .int .i64 0, .int .i64 0, .int .i64 0, .int .i64 0, .int .i64 0, .int .i64 0, .int .i64 0, .int .i64 0, .int .i64 0, .int .i64 0, .int .i64 0, .int .i64 0, .int .i64 0, .int .i64 0, .int .i64 0, .int .i64 0, .int .i64 0, .int .i64 0, .int .i64 0, .int .i64 0, .int .i64 0, .int .i64 0, .int .i64 0, .int .i64 0, .int .i64 0, .int .i64 0, .int .i64 0, .int .i64 0, .int .i64 0, .int .i64 0, .int .i64 0, .int .i64 0, .int .i64 0, .int .i64 0, .int .i64 0, .int .i64 0, .int .i64 0, .int .i64 0, .int .i64 0, .int .i64 0, .int .i64 0, .int .i64 0, .int .i64 0, .int .i64 0, .int .i64 0, .int .i64 0, .int .i64 0, .int .i64 0, .int .i64 0, .int .i64 0, .int .i64 0, .int .i64 0, .int .i64 0, .int .i64 0, .int .i64 0, .int .i64 0, .int .i64 0, .int .i64 0, .int .i64 0, .int .i64 0, .int .i64 0, .int .i64 0, .int .i64 0, .int .i64 0, .int .i64 0, .int .i64 0, .int .i64 0, .int .i64 0, .int .i64 0, .int .i64 0, .int .i64 0, .int .i64 0, .int .i64 0, .int .i64 0, .int .i64 0, .int .i64 0, .int .i64 0, .int .i64 0, .int .i64 0, .int .i64 0, .int .i64 0, .int .i64 0, .int .i64 0, .int .i64 0, .int .i64 0, .int .i64 0, .int .i64 0, .int .i64 0, .int .i64 0, .int .i64 0, .int .i64 0, .int .i64 0, .int .i64 0, .int .i64 0, .int .i64 0, .int .i64 0, .int .i64 0, .int .i64 0, .int .i64 0, .int .i64 0, .int .i64 0, .int .i64 0, .int .i64 0, .int .i64 0, .int .i64 0, .int .i64 0, .int .i64 0, .int .i64 0, .int .i64 0, .int .i64 0, .int .i64 0, .int .i64 0, .int .i64 0, .int .i64 0, .int .i64 0, .int .i64 0, .int .i64 0, .int .i64 0, .int .i64 0, .int .i64 0, .int .i64 0, .int .i64 0, .int .i64 0, .int .i64 0, .int .i64 0, .int .i64 0, .int .i64 0, .int .i64 0, .int .i64 0, .int .i64 0, .int .i64 0, .int .i64 0, .int .i64 0, .int .i64 0, .int .i64 0, .int .i64 0, .int .i64 0, .int .i64 0, .int .i64 0, .int .i64 0, .int .i64 0, .int .i64 0, .int .i64 0, .int .i64 0, .int .i64 0, .int .i64 0, .int .i64 0, .int .i64 0, .int .i64 0, .int .i64 0, .int .i64 0, .int .i64 0, .int .i64 0, .int .i64 0, .int .i64 0, .int .i64 0, .int .i64 0, .int .i64 0, .int .i64 0, .int .i64 0, .int .i64 0, .int .i64 0, .int .i64 0, .int .i64 0, .int .i64 0, .int .i64 0, .int .i64 0, .int .i64 0, .int .i64 0, .int .i64 0, .int .i64 0, .int .i64 0, .int .i64 0, .int .i64 0, .int .i64 0, .int .i64 0, .int .i64 0, .int .i64 0, .int .i64 0, .int .i64 0, .int .i64 0, .int .i64 0, .int .i64 0, .int .i64 0, .int .i64 0, .int .i64 0, .int .i64 0, .int .i64 0, .int .i64 0, .int .i64 0, .int .i64 0, .int .i64 0, .int .i64 0, .int .i64 0, .int .i64 0, .int .i64 0, .int .i64 0, .int .i64 0, .int .i64 0, .int .i64 0, .int .i64 0, .int .i64 0]⟩),
  (51, ⟨.int .u64, 1, 8, .ints .u64 ([0])⟩)]
theorem θok : θ.Ok Try.prog := ⟨⟨by kernel_rfl, by kernel_rfl, by kernel_rfl⟩, ⟨by kernel_rfl, by kernel_rfl, by kernel_rfl⟩, ⟨by kernel_rfl, by kernel_rfl, by kernel_rfl⟩, ⟨by kernel_rfl, by kernel_rfl, by kernel_rfl⟩, ⟨by kernel_rfl, by kernel_rfl, by kernel_rfl⟩, ⟨by kernel_rfl, by kernel_rfl, by kernel_rfl⟩, ⟨by kernel_rfl, by kernel_rfl, by kernel_rfl⟩, ⟨by kernel_rfl, by kernel_rfl, by kernel_rfl⟩, ⟨by kernel_rfl, by kernel_rfl, by kernel_rfl⟩, trivial⟩
theorem mixed : Try.prog.follows .mixedOrders = true := by kernel_rfl

/-! "lockbox/gf.double" -/
namespace f25

noncomputable def body : Code := (Try.f25.body).getD .skip

abbrev H0 (x0 : Int) : Heap := []

def at0 (x0 : Int)  (v : Value) (Hf : Heap) : Prop :=
  Ends Try.prog Try.f25 (H0 x0) [.code (nav [] body)] [some (.int .u8 x0), none, none, none, none, none, none, none, none, none, none] [] v Hf

theorem ok {x0 : Int} {v : Value} {Hf : Heap} (h : at0 x0 v Hf) : FnOk Try.prog 25 [.int .u8 x0] [] v Hf :=
  Ends.fnOk Try.func25 (c := body) (by kernel_rfl) (by kernel_rfl) (by kernel_rfl) h

theorem s1 {x0 : Int}   (h1 : (decide ((128 : Int) ≤ x0)) = true) : at0 x0  (.int .u8 (Go.bits .xor .u8 (wrapE .u8 (x0 * 2 ^ 1)) 27)) [] := by
  refine Ends.run θok mixed (n := 11) (hs := [.b true])
    (todo' := [.code (nav [1, 1, 1, 1] body)])
    (T' := [some (.int .u8 x0), none, some (.int .u8 (Go.bits .xor .u8 (wrapE .u8 (x0 * 2 ^ 1)) 27)), some (.int .u8 (Go.bits .xor .u8 (wrapE .u8 (x0 * 2 ^ 1)) 27)), some (.int .u8 x0), some (.int .u8 (wrapE .u8 (x0 * 2 ^ 1))), some (.int .u8 x0), some (.bool (decide ((128 : Int) ≤ x0))), some (.int .u8 (wrapE .u8 (x0 * 2 ^ 1))), some (.int .u8 (Go.bits .xor .u8 (wrapE .u8 (x0 * 2 ^ 1)) 27)), some (.int .u8 (Go.bits .xor .u8 (wrapE .u8 (x0 * 2 ^ 1)) 27))])
    (H' := [])
    (C := (True ∧ ((True ∧ (True ∧ True)) ∧ (True ∧ ((True ∧ (True ∧ (True ∧ (((0 : Int) ≤ 1 ∧ (1 : Int) ≤ (IntKind.bits .u8 : Nat)) ∧ (True ∧ (True ∧ True)))))) ∧ (True ∧ (True ∧ ((True ∧ (True ∧ (True ∧ (True ∧ True)))) ∧ (((decide ((128 : Int) ≤ x0)) = true) ∧ ((True ∧ (True ∧ (True ∧ (True ∧ (True ∧ (True ∧ True)))))) ∧ (True ∧ ((True ∧ (True ∧ (True ∧ (True ∧ True)))) ∧ True))))))))))))
    (by kernel_rfl) ⟨trivial, ⟨⟨trivial, ⟨trivial, trivial⟩⟩, ⟨trivial, ⟨⟨trivial, ⟨trivial, ⟨trivial, ⟨(by decide), ⟨trivial, ⟨trivial, trivial⟩⟩⟩⟩⟩⟩, ⟨trivial, ⟨trivial, ⟨⟨trivial, ⟨trivial, ⟨trivial, ⟨trivial, trivial⟩⟩⟩⟩, ⟨h1, ⟨⟨trivial, ⟨trivial, ⟨trivial, ⟨trivial, ⟨trivial, ⟨trivial, trivial⟩⟩⟩⟩⟩⟩, ⟨trivial, ⟨⟨trivial, ⟨trivial, ⟨trivial, ⟨trivial, trivial⟩⟩⟩⟩, trivial⟩⟩⟩⟩⟩⟩⟩⟩⟩⟩⟩ ?_
  refine Ends.rekey (T' := [none, none, some (.int .u8 (Go.bits .xor .u8 (wrapE .u8 (x0 * 2 ^ 1)) 27)), none, none, none, none, none, none, none, none]) (H' := []) [] ⟨rfl, rfl, Nat.le_of_ble_eq_true rfl⟩ rfl rfl (And.intro rfl trivial) ?_
  exact (Ends.ret θok (C := (True ∧ True)) (by kernel_rfl) ⟨trivial, trivial⟩)

theorem s2 {x0 : Int}   (h1 : (decide ((128 : Int) ≤ x0)) = false) : at0 x0  (.int .u8 (wrapE .u8 (x0 * 2 ^ 1))) [] := by
  refine Ends.run θok mixed (n := 11) (hs := [.b false])
    (todo' := [.code (nav [1, 1, 1, 1] body)])
    (T' := [some (.int .u8 x0), none, some (.int .u8 (wrapE .u8 (x0 * 2 ^ 1))), some (.int .u8 (wrapE .u8 (x0 * 2 ^ 1))), some (.int .u8 x0), some (.int .u8 (wrapE .u8 (x0 * 2 ^ 1))), some (.int .u8 x0), some (.bool (decide ((128 : Int) ≤ x0))), none, none, some (.int .u8 (wrapE .u8 (x0 * 2 ^ 1)))])
    (H' := [])
    (C := (True ∧ ((True ∧ (True ∧ True)) ∧ (True ∧ ((True ∧ (True ∧ (True ∧ (((0 : Int) ≤ 1 ∧ (1 : Int) ≤ (IntKind.bits .u8 : Nat)) ∧ (True ∧ (True ∧ True)))))) ∧ (True ∧ (True ∧ ((True ∧ (True ∧ (True ∧ (True ∧ True)))) ∧ (((decide ((128 : Int) ≤ x0)) = false) ∧ (True ∧ (True ∧ ((True ∧ (True ∧ (True ∧ (True ∧ True)))) ∧ True))))))))))))
    (by kernel_rfl) ⟨trivial, ⟨⟨trivial, ⟨trivial, trivial⟩⟩, ⟨trivial, ⟨⟨trivial, ⟨trivial, ⟨trivial, ⟨(by decide), ⟨trivial, ⟨trivial, trivial⟩⟩⟩⟩⟩⟩, ⟨trivial, ⟨trivial, ⟨⟨trivial, ⟨trivial, ⟨trivial, ⟨trivial, trivial⟩⟩⟩⟩, ⟨h1, ⟨trivial, ⟨trivial, ⟨⟨trivial, ⟨trivial, ⟨trivial, ⟨trivial, trivial⟩⟩⟩⟩, trivial⟩⟩⟩⟩⟩⟩⟩⟩⟩⟩⟩ ?_
  refine Ends.rekey (T' := [none, none, some (.int .u8 (wrapE .u8 (x0 * 2 ^ 1))), none, none, none, none, none, none, none, none]) (H' := []) [] ⟨rfl, rfl, Nat.le_of_ble_eq_true rfl⟩ rfl rfl (And.intro rfl trivial) ?_
  exact (Ends.ret θok (C := (True ∧ True)) (by kernel_rfl) ⟨trivial, trivial⟩)

end f25

/-! "lockbox/gf.Log" -/
namespace f9

noncomputable def body : Code := (Try.f9.body).getD .skip

abbrev H0 (x0 : Int) : Heap := []

def at0 (x0 : Int)  (v : Value) (Hf : Heap) : Prop :=
  Ends Try.prog Try.f9 (H0 x0) [.code (nav [] body)] [some (.int .u8 x0), none, none, none, none, none, none, none, none, none, none, none, none, none, none, none, none, none] [] v Hf

def at1 (x0 : Int) (i_1_4 : Int) (i_1_5 : Int) (v : Value) (Hf : Heap) : Prop :=
  Ends Try.prog Try.f9 (H0 x0) [.code (nav [1, 1, 1, 0, 1, 0, 0] body), .inLoop (nav [1, 1, 1, 0, 1, 0, 0] body), .inBlock 0, .code (nav [1, 1, 1, 1] body)] [some (.int .u8 x0), none, some (.int .i64 0), some (.int .i64 0), some (.int .i64 i_1_4), some (.int .u8 i_1_5), none, none, none, none, none, none, none, none, none, none, none, none] [] v Hf

theorem ok {x0 : Int} {v : Value} {Hf : Heap} (h : at0 x0 v Hf) : FnOk Try.prog 9 [.int .u8 x0] [] v Hf :=
  Ends.fnOk Try.func9 (c := body) (by kernel_rfl) (by kernel_rfl) (by kernel_rfl) h

theorem s1 {x0 : Int}   (h1 : (decide ((x0 : Int) = 0)) = true) : at0 x0  (.tuple #[.int .i64 0, .int .i64 1]) [] := by
  refine Ends.run θok mixed (n := 8) (hs := [.b true])
    (todo' := [.code (nav [1, 0, 1, 0, 1] body), .code (nav [1, 1] body)])
    (T' := [some (.int .u8 x0), none, some (.int .i64 0), some (.int .i64 1), none, none, some (.int .u8 x0), some (.bool (decide ((x0 : Int) = 0))), none, none, none, none, none, none, none, none, none, none])
    (H' := [])
    (C := (True ∧ ((True ∧ (True ∧ (True ∧ (True ∧ True)))) ∧ (True ∧ (True ∧ ((True ∧ (True ∧ (True ∧ (True ∧ True)))) ∧ (((decide ((x0 : Int) = 0)) = true) ∧ (True ∧ ((True ∧ (True ∧ (True ∧ (True ∧ True)))) ∧ True)))))))))
    (by kernel_rfl) ⟨trivial, ⟨⟨trivial, ⟨trivial, ⟨trivial, ⟨trivial, trivial⟩⟩⟩⟩, ⟨trivial, ⟨trivial, ⟨⟨trivial, ⟨trivial, ⟨trivial, ⟨trivial, trivial⟩⟩⟩⟩, ⟨h1, ⟨trivial, ⟨⟨trivial, ⟨trivial, ⟨trivial, ⟨trivial, trivial⟩⟩⟩⟩, trivial⟩⟩⟩⟩⟩⟩⟩⟩ ?_
  refine Ends.rekey (T' := [none, none, some (.int .i64 0), some (.int .i64 1), none, none, none, none, none, none, none, none, none, none, none, none, none, none]) (H' := []) [] ⟨rfl, rfl, Nat.le_of_ble_eq_true rfl⟩ rfl rfl (And.intro rfl (And.intro rfl trivial)) ?_
  exact (Ends.ret θok (C := (True ∧ (True ∧ True))) (by kernel_rfl) ⟨trivial, ⟨trivial, trivial⟩⟩)

theorem s2 {x0 : Int}   (h1 : (decide ((x0 : Int) = 0)) = false) {v : Value} {Hf : Heap} (hE : at1 x0 0 1 v Hf) : at0 x0  v Hf := by
  refine Ends.run θok mixed (n := 14) (hs := [.b false])
    (todo' := [.code (nav [1, 1, 1, 0, 1, 0, 0] body), .inLoop (nav [1, 1, 1, 0, 1, 0, 0] body), .inBlock 0, .code (nav [1, 1, 1, 1] body)])
    (T' := [some (.int .u8 x0), none, some (.int .i64 0), some (.int .i64 0), some (.int .i64 0), some (.int .u8 1), some (.int .u8 x0), some (.bool (decide ((x0 : Int) = 0))), none, none, none, none, none, none, none, none, none, none])
    (H' := [])
    (C := (True ∧ ((True ∧ (True ∧ (True ∧ (True ∧ True)))) ∧ (True ∧ (True ∧ ((True ∧ (True ∧ (True ∧ (True ∧ True)))) ∧ (((decide ((x0 : Int) = 0)) = false) ∧ (True ∧ (True ∧ ((True ∧ (True ∧ True)) ∧ (True ∧ (True ∧ ((True ∧ (True ∧ True)) ∧ (True ∧ (True ∧ True)))))))))))))))
    (by kernel_rfl) ⟨trivial, ⟨⟨trivial, ⟨trivial, ⟨trivial, ⟨trivial, trivial⟩⟩⟩⟩, ⟨trivial, ⟨trivial, ⟨⟨trivial, ⟨trivial, ⟨trivial, ⟨trivial, trivial⟩⟩⟩⟩, ⟨h1, ⟨trivial, ⟨trivial, ⟨⟨trivial, ⟨trivial, trivial⟩⟩, ⟨trivial, ⟨trivial, ⟨⟨trivial, ⟨trivial, trivial⟩⟩, ⟨trivial, ⟨trivial, trivial⟩⟩⟩⟩⟩⟩⟩⟩⟩⟩⟩⟩⟩⟩ ?_
  refine Ends.rekey (T' := [some (.int .u8 x0), none, some (.int .i64 0), some (.int .i64 0), some (.int .i64 0), some (.int .u8 1), none, none, none, none, none, none, none, none, none, none, none, none]) (H' := []) [] ⟨rfl, rfl, Nat.le_of_ble_eq_true rfl⟩ rfl rfl (And.intro rfl (And.intro rfl (And.intro rfl (And.intro rfl (And.intro rfl trivial))))) ?_
  exact hE

theorem s3 {x0 : Int} {i_1_4 : Int} {i_1_5 : Int} {r1 : Int} (h1 : (!decide ((i_1_5 : Int) = x0)) = true) (h2 : (-9223372036854775808 : Int) ≤ i_1_4 + 1 ∧ (i_1_4 + 1 : Int) ≤ 9223372036854775807) (h3 : Pure Try.prog 25 [.int .u8 i_1_5] (.int .u8 r1)) {v : Value} {Hf : Heap} (hE : at1 x0 (i_1_4 + 1) (Go.bits .xor .u8 i_1_5 r1) v Hf) : at1 x0 i_1_4 i_1_5 v Hf := by
  refine Ends.run θok mixed (n := 11) (hs := [.b true, .call (.int .u8 r1)])
    (todo' := [.code (nav [1, 1, 1, 0, 1, 0, 0] body), .inLoop (nav [1, 1, 1, 0, 1, 0, 0] body), .inBlock 0, .code (nav [1, 1, 1, 1] body)])
    (T' := [some (.int .u8 x0), none, some (.int .i64 0), some (.int .i64 0), some (.int .i64 (i_1_4 + 1)), some (.int .u8 (Go.bits .xor .u8 i_1_5 r1)), none, none, some (.int .u8 i_1_5), some (.int .u8 x0), some (.bool (!decide ((i_1_5 : Int) = x0))), some (.int .u8 i_1_5), some (.int .u8 i_1_5), some (.int .u8 r1), some (.int .u8 (Go.bits .xor .u8 i_1_5 r1)), some (.int .i64 i_1_4), some (.int .i64 (i_1_4 + 1)), none])
    (H' := [])
    (C := (True ∧ (True ∧ ((True ∧ (True ∧ (True ∧ (True ∧ (True ∧ (True ∧ True)))))) ∧ (((!decide ((i_1_5 : Int) = x0)) = true) ∧ (True ∧ (True ∧ (True ∧ ((True ∧ (True ∧ (True ∧ (((-9223372036854775808 : Int) ≤ i_1_4 + 1 ∧ (i_1_4 + 1 : Int) ≤ 9223372036854775807) ∧ (True ∧ (True ∧ True)))))) ∧ (True ∧ ((True ∧ (True ∧ (True ∧ (True ∧ (True ∧ ((FlatL [.int .u8 i_1_5] ∧ Pure Try.prog 25 [.int .u8 i_1_5] (.int .u8 r1)) ∧ (True ∧ (True ∧ (True ∧ (True ∧ True)))))))))) ∧ (True ∧ True))))))))))))
    (by kernel_rfl) ⟨trivial, ⟨trivial, ⟨⟨trivial, ⟨trivial, ⟨trivial, ⟨trivial, ⟨trivial, ⟨trivial, trivial⟩⟩⟩⟩⟩⟩, ⟨h1, ⟨trivial, ⟨trivial, ⟨trivial, ⟨⟨trivial, ⟨trivial, ⟨trivial, ⟨h2, ⟨trivial, ⟨trivial, trivial⟩⟩⟩⟩⟩⟩, ⟨trivial, ⟨⟨trivial, ⟨trivial, ⟨trivial, ⟨trivial, ⟨trivial, ⟨⟨by simp [FlatL, Flat, Flat2, Flat1, Row.cells], h3⟩, ⟨trivial, ⟨trivial, ⟨trivial, ⟨trivial, trivial⟩⟩⟩⟩⟩⟩⟩⟩⟩⟩, ⟨trivial, trivial⟩⟩⟩⟩⟩⟩⟩⟩⟩⟩⟩ ?_
  refine Ends.rekey (T' := [some (.int .u8 x0), none, some (.int .i64 0), some (.int .i64 0), some (.int .i64 (i_1_4 + 1)), some (.int .u8 (Go.bits .xor .u8 i_1_5 r1)), none, none, none, none, none, none, none, none, none, none, none, none]) (H' := []) [] ⟨rfl, rfl, Nat.le_of_ble_eq_true rfl⟩ rfl rfl (And.intro rfl (And.intro rfl (And.intro rfl (And.intro rfl (And.intro rfl trivial))))) ?_
  exact hE

theorem s4 {x0 : Int} {i_1_4 : Int} {i_1_5 : Int}  (h1 : (!decide ((i_1_5 : Int) = x0)) = false) : at1 x0 i_1_4 i_1_5 (.tuple #[.int .i64 i_1_4, .int .i64 0]) [] := by
  refine Ends.run θok mixed (n := 7) (hs := [.b false])
    (todo' := [.code (nav [1, 1, 1, 1, 1] body)])
    (T' := [some (.int .u8 x0), none, some (.int .i64 i_1_4), some (.int .i64 0), some (.int .i64 i_1_4), some (.int .u8 i_1_5), none, none, some (.int .u8 i_1_5), some (.int .u8 x0), some (.bool (!decide ((i_1_5 : Int) = x0))), none, none, none, none, none, none, some (.int .i64 i_1_4)])
    (H' := [])
    (C := (True ∧ (True ∧ ((True ∧ (True ∧ (True ∧ (True ∧ (True ∧ (True ∧ True)))))) ∧ (((!decide ((i_1_5 : Int) = x0)) = false) ∧ (True ∧ (True ∧ ((True ∧ (True ∧ (True ∧ (True ∧ (True ∧ (True ∧ True)))))) ∧ True))))))))
    (by kernel_rfl) ⟨trivial, ⟨trivial, ⟨⟨trivial, ⟨trivial, ⟨trivial, ⟨trivial, ⟨trivial, ⟨trivial, trivial⟩⟩⟩⟩⟩⟩, ⟨h1, ⟨trivial, ⟨trivial, ⟨⟨trivial, ⟨trivial, ⟨trivial, ⟨trivial, ⟨trivial, ⟨trivial, trivial⟩⟩⟩⟩⟩⟩, trivial⟩⟩⟩⟩⟩⟩⟩ ?_
  refine Ends.rekey (T' := [none, none, some (.int .i64 i_1_4), some (.int .i64 0), none, none, none, none, none, none, none, none, none, none, none, none, none, none]) (H' := []) [] ⟨rfl, rfl, Nat.le_of_ble_eq_true rfl⟩ rfl rfl (And.intro rfl (And.intro rfl trivial)) ?_
  exact (Ends.ret θok (C := (True ∧ (True ∧ True))) (by kernel_rfl) ⟨trivial, ⟨trivial, trivial⟩⟩)

end f9

/-! "lockbox/lockboxref07.Mul" -/
namespace f19

noncomputable def body : Code := (Try.f19.body).getD .skip

abbrev H0 (x0 : Int) (x1 : Int) : Heap := []

def at0 (x0 : Int) (x1 : Int)  (v : Value) (Hf : Heap) : Prop :=
  Ends Try.prog Try.f19 (H0 x0 x1) [.code (nav [] body)] [some (.int .u8 x0), some (.int .u8 x1), none, none, none, none, none, none, none, none, none, none, none, none, none, none, none, none, none, none, none, none, none, none, none, none, none, none, none, none, none, none, none, none, none, none, none, none, none, none, none, none, none, none] [] v Hf

def at1 (x0 : Int) (x1 : Int) (i_1_5 : Int) (i_1_6 : Int) (v : Value) (Hf : Heap) : Prop :=
  Ends Try.prog Try.f19 (H0 x0 x1) [.code (nav [1, 1, 0, 1, 0, 0] body), .inLoop (nav [1, 1, 0, 1, 0, 0] body), .inBlock 0, .code (nav [1, 1, 1] body)] [some (.int .u8 x0), some (.int .u8 x1), none, none, some (.int .u8 0), some (.int .i64 i_1_5), some (.int .i64 i_1_6), none, none, none, none, none, none, none, none, none, none, none, none, none, none, none, none, none, none, none, none, none, none, none, none, none, none, none, none, none, none, none, none, none, none, none, none, none] [] v Hf

def at2 (x0 : Int) (x1 : Int) (i_2_5 : Int) (i_2_7 : Int) (v : Value) (Hf : Heap) : Prop :=
  Ends Try.prog Try.f19 (H0 x0 x1) [.code (nav [1, 1, 1, 0, 1, 0, 0] body), .inLoop (nav [1, 1, 1, 0, 1, 0, 0] body), .inBlock 2, .code (nav [1, 1, 1, 1] body)] [none, none, none, none, some (.int .u8 0), some (.int .i64 i_2_5), none, some (.int .i64 i_2_7), none, none, none, none, none, none, none, none, none, none, none, none, none, none, none, none, none, none, none, none, none, none, none, none, none, none, none, none, none, none, none, none, none, none, none, none] [] v Hf

theorem ok {x0 : Int} {x1 : Int} {v : Value} {Hf : Heap} (h : at0 x0 x1 v Hf) : FnOk Try.prog 19 [.int .u8 x0, .int .u8 x1] [] v Hf :=
  Ends.fnOk Try.func19 (c := body) (by kernel_rfl) (by kernel_rfl) (by kernel_rfl) h

theorem s1 {x0 : Int} {x1 : Int}    {v : Value} {Hf : Heap} (hE : at1 x0 x1 0 0 v Hf) : at0 x0 x1  v Hf := by
  refine Ends.run θok mixed (n := 9) (hs := [])
    (todo' := [.code (nav [1, 1, 0, 1, 0, 0] body), .inLoop (nav [1, 1, 0, 1, 0, 0] body), .inBlock 0, .code (nav [1, 1, 1] body)])
    (T' := [some (.int .u8 x0), some (.int .u8 x1), none, none, some (.int .u8 0), some (.int .i64 0), some (.int .i64 0), none, none, none, none, none, none, none, none, none, none, none, none, none, none, none, none, none, none, none, none, none, none, none, none, none, none, none, none, none, none, none, none, none, none, none, none, none])
    (H' := [])
    (C := (True ∧ ((True ∧ (True ∧ True)) ∧ (True ∧ ((True ∧ (True ∧ True)) ∧ (True ∧ (True ∧ ((True ∧ (True ∧ True)) ∧ (True ∧ (True ∧ True))))))))))
    (by kernel_rfl) ⟨trivial, ⟨⟨trivial, ⟨trivial, trivial⟩⟩, ⟨trivial, ⟨⟨trivial, ⟨trivial, trivial⟩⟩, ⟨trivial, ⟨trivial, ⟨⟨trivial, ⟨trivial, trivial⟩⟩, ⟨trivial, ⟨trivial, trivial⟩⟩⟩⟩⟩⟩⟩⟩⟩ ?_
  refine Ends.rekey (T' := [some (.int .u8 x0), some (.int .u8 x1), none, none, some (.int .u8 0), some (.int .i64 0), some (.int .i64 0), none, none, none, none, none, none, none, none, none, none, none, none, none, none, none, none, none, none, none, none, none, none, none, none, none, none, none, none, none, none, none, none, none, none, none, none, none]) (H' := []) [] ⟨rfl, rfl, Nat.le_of_ble_eq_true rfl⟩ rfl rfl (And.intro rfl (And.intro rfl (And.intro rfl (And.intro rfl (And.intro rfl trivial))))) ?_
  exact hE

theorem s2 {x0 : Int} {x1 : Int} {i_1_5 : Int} {i_1_6 : Int}  (h1 : (decide ((i_1_6 : Int) < 8)) = true) (h2 : (-9223372036854775808 : Int) ≤ x1 ∧ (x1 : Int) ≤ 9223372036854775807) (h3 : (0 : Int) ≤ wrapE .u64 i_1_6 ∧ wrapE .u64 i_1_6 ≤ (IntKind.bits .i64 : Nat)) (h4 : (0 : Int) ≤ x1 / 2 ^ (Int.toNat (wrapE .u64 i_1_6)) ∧ (0 : Int) < 2) (h5 : (decide (((x1 / 2 ^ (Int.toNat (wrapE .u64 i_1_6))) % 2 : Int) = 1)) = true) (h6 : (-9223372036854775808 : Int) ≤ x0 ∧ (x0 : Int) ≤ 9223372036854775807) (h7 : (-9223372036854775808 : Int) ≤ i_1_6 + 1 ∧ (i_1_6 + 1 : Int) ≤ 9223372036854775807) {v : Value} {Hf : Heap} (hE : at1 x0 x1 (Go.bits .xor .i64 i_1_5 (wrapE .i64 (x0 * 2 ^ (Int.toNat (wrapE .u64 i_1_6))))) (i_1_6 + 1) v Hf) : at1 x0 x1 i_1_5 i_1_6 v Hf := by
  refine Ends.run θok mixed (n := 14) (hs := [.b true, .b true, .b true])
    (todo' := [.code (nav [1, 1, 0, 1, 0, 0] body), .inLoop (nav [1, 1, 0, 1, 0, 0] body), .inBlock 0, .code (nav [1, 1, 1] body)])
    (T' := [some (.int .u8 x0), some (.int .u8 x1), none, none, some (.int .u8 0), some (.int .i64 (Go.bits .xor .i64 i_1_5 (wrapE .i64 (x0 * 2 ^ (Int.toNat (wrapE .u64 i_1_6)))))), some (.int .i64 (i_1_6 + 1)), none, some (.int .i64 i_1_6), some (.bool (decide ((i_1_6 : Int) < 8))), some (.int .i64 i_1_6), some (.int .i64 (i_1_6 + 1)), some (.int .u8 x1), some (.int .i64 x1), some (.int .i64 i_1_6), some (.int .u64 (wrapE .u64 i_1_6)), some (.int .i64 (x1 / 2 ^ (Int.toNat (wrapE .u64 i_1_6)))), some (.int .i64 ((x1 / 2 ^ (Int.toNat (wrapE .u64 i_1_6))) % 2)), some (.bool (decide (((x1 / 2 ^ (Int.toNat (wrapE .u64 i_1_6))) % 2 : Int) = 1))), some (.int .i64 i_1_5), some (.int .u8 x0), some (.int .i64 x0), some (.int .i64 i_1_6), some (.int .u64 (wrapE .u64 i_1_6)), some (.int .i64 (wrapE .i64 (x0 * 2 ^ (Int.toNat (wrapE .u64 i_1_6))))), some (.int .i64 (Go.bits .xor .i64 i_1_5 (wrapE .i64 (x0 * 2 ^ (Int.toNat (wrapE .u64 i_1_6)))))), none, none, none, none, none, none, none, none, none, none, none, none, none, none, none, none, none, none])
    (H' := [])
    (C := (True ∧ (True ∧ ((True ∧ (True ∧ (True ∧ (True ∧ True)))) ∧ (((decide ((i_1_6 : Int) < 8)) = true) ∧ (True ∧ (True ∧ (True ∧ (True ∧ ((True ∧ (True ∧ (True ∧ (((-9223372036854775808 : Int) ≤ x1 ∧ (x1 : Int) ≤ 9223372036854775807) ∧ (True ∧ (True ∧ (True ∧ (True ∧ (True ∧ (((0 : Int) ≤ wrapE .u64 i_1_6 ∧ wrapE .u64 i_1_6 ≤ (IntKind.bits .i64 : Nat)) ∧ (True ∧ (((0 : Int) ≤ x1 / 2 ^ (Int.toNat (wrapE .u64 i_1_6)) ∧ (0 : Int) < 2) ∧ (True ∧ (True ∧ True)))))))))))))) ∧ (((decide (((x1 / 2 ^ (Int.toNat (wrapE .u64 i_1_6))) % 2 : Int) = 1)) = true) ∧ ((True ∧ (True ∧ (True ∧ (True ∧ (True ∧ (((-9223372036854775808 : Int) ≤ x0 ∧ (x0 : Int) ≤ 9223372036854775807) ∧ (True ∧ (True ∧ (True ∧ (True ∧ (True ∧ (((0 : Int) ≤ wrapE .u64 i_1_6 ∧ wrapE .u64 i_1_6 ≤ (IntKind.bits .i64 : Nat)) ∧ (True ∧ (True ∧ (True ∧ (True ∧ True)))))))))))))))) ∧ (True ∧ ((True ∧ (True ∧ (True ∧ (((-9223372036854775808 : Int) ≤ i_1_6 + 1 ∧ (i_1_6 + 1 : Int) ≤ 9223372036854775807) ∧ (True ∧ (True ∧ True)))))) ∧ (True ∧ True)))))))))))))))
    (by kernel_rfl) ⟨trivial, ⟨trivial, ⟨⟨trivial, ⟨trivial, ⟨trivial, ⟨trivial, trivial⟩⟩⟩⟩, ⟨h1, ⟨trivial, ⟨trivial, ⟨trivial, ⟨trivial, ⟨⟨trivial, ⟨trivial, ⟨trivial, ⟨h2, ⟨trivial, ⟨trivial, ⟨trivial, ⟨trivial, ⟨trivial, ⟨h3, ⟨trivial, ⟨h4, ⟨trivial, ⟨trivial, trivial⟩⟩⟩⟩⟩⟩⟩⟩⟩⟩⟩⟩⟩⟩, ⟨h5, ⟨⟨trivial, ⟨trivial, ⟨trivial, ⟨trivial, ⟨trivial, ⟨h6, ⟨trivial, ⟨trivial, ⟨trivial, ⟨trivial, ⟨trivial, ⟨h3, ⟨trivial, ⟨trivial, ⟨trivial, ⟨trivial, trivial⟩⟩⟩⟩⟩⟩⟩⟩⟩⟩⟩⟩⟩⟩⟩⟩, ⟨trivial, ⟨⟨trivial, ⟨trivial, ⟨trivial, ⟨h7, ⟨trivial, ⟨trivial, trivial⟩⟩⟩⟩⟩⟩, ⟨trivial, trivial⟩⟩⟩⟩⟩⟩⟩⟩⟩⟩⟩⟩⟩⟩ ?_
  refine Ends.rekey (T' := [some (.int .u8 x0), some (.int .u8 x1), none, none, some (.int .u8 0), some (.int .i64 (Go.bits .xor .i64 i_1_5 (wrapE .i64 (x0 * 2 ^ (Int.toNat (wrapE .u64 i_1_6)))))), some (.int .i64 (i_1_6 + 1)), none, none, none, none, none, none, none, none, none, none, none, none, none, none, none, none, none, none, none, none, none, none, none, none, none, none, none, none, none, none, none, none, none, none, none, none, none]) (H' := []) [] ⟨rfl, rfl, Nat.le_of_ble_eq_true rfl⟩ rfl rfl (And.intro rfl (And.intro rfl (And.intro rfl (And.intro rfl (And.intro rfl trivial))))) ?_
  exact hE

theorem s3 {x0 : Int} {x1 : Int} {i_1_5 : Int} {i_1_6 : Int}  (h1 : (decide ((i_1_6 : Int) < 8)) = false) {v : Value} {Hf : Heap} (hE : at2 x0 x1 i_1_5 14 v Hf) : at1 x0 x1 i_1_5 i_1_6 v Hf := by
  refine Ends.run θok mixed (n := 10) (hs := [.b false])
    (todo' := [.code (nav [1, 1, 1, 0, 1, 0, 0] body), .inLoop (nav [1, 1, 1, 0, 1, 0, 0] body), .inBlock 2, .code (nav [1, 1, 1, 1] body)])
    (T' := [some (.int .u8 x0), some (.int .u8 x1), none, none, some (.int .u8 0), some (.int .i64 i_1_5), some (.int .i64 i_1_6), some (.int .i64 14), some (.int .i64 i_1_6), some (.bool (decide ((i_1_6 : Int) < 8))), none, none, none, none, none, none, none, none, none, none, none, none, none, none, none, none, none, none, none, none, none, none, none, none, none, none, none, none, none, none, none, none, none, none])
    (H' := [])
    (C := (True ∧ (True ∧ ((True ∧ (True ∧ (True ∧ (True ∧ True)))) ∧ (((decide ((i_1_6 : Int) < 8)) = false) ∧ (True ∧ (True ∧ (True ∧ ((True ∧ (True ∧ True)) ∧ (True ∧ (True ∧ True)))))))))))
    (by kernel_rfl) ⟨trivial, ⟨trivial, ⟨⟨trivial, ⟨trivial, ⟨trivial, ⟨trivial, trivial⟩⟩⟩⟩, ⟨h1, ⟨trivial, ⟨trivial, ⟨trivial, ⟨⟨trivial, ⟨trivial, trivial⟩⟩, ⟨trivial, ⟨trivial, trivial⟩⟩⟩⟩⟩⟩⟩⟩⟩⟩ ?_
  refine Ends.rekey (T' := [none, none, none, none, some (.int .u8 0), some (.int .i64 i_1_5), none, some (.int .i64 14), none, none, none, none, none, none, none, none, none, none, none, none, none, none, none, none, none, none, none, none, none, none, none, none, none, none, none, none, none, none, none, none, none, none, none, none]) (H' := []) [] ⟨rfl, rfl, Nat.le_of_ble_eq_true rfl⟩ rfl rfl (And.intro rfl (And.intro rfl (And.intro rfl trivial))) ?_
  exact hE

theorem s4 {x0 : Int} {x1 : Int} {i_1_5 : Int} {i_1_6 : Int}  (h1 : (decide ((i_1_6 : Int) < 8)) = true) (h2 : (-9223372036854775808 : Int) ≤ x1 ∧ (x1 : Int) ≤ 9223372036854775807) (h3 : (0 : Int) ≤ wrapE .u64 i_1_6 ∧ wrapE .u64 i_1_6 ≤ (IntKind.bits .i64 : Nat)) (h4 : (0 : Int) ≤ x1 / 2 ^ (Int.toNat (wrapE .u64 i_1_6)) ∧ (0 : Int) < 2) (h5 : (decide (((x1 / 2 ^ (Int.toNat (wrapE .u64 i_1_6))) % 2 : Int) = 1)) = false) (h6 : (-9223372036854775808 : Int) ≤ i_1_6 + 1 ∧ (i_1_6 + 1 : Int) ≤ 9223372036854775807) {v : Value} {Hf : Heap} (hE : at1 x0 x1 i_1_5 (i_1_6 + 1) v Hf) : at1 x0 x1 i_1_5 i_1_6 v Hf := by
  refine Ends.run θok mixed (n := 14) (hs := [.b true, .b true, .b false])
    (todo' := [.code (nav [1, 1, 0, 1, 0, 0] body), .inLoop (nav [1, 1, 0, 1, 0, 0] body), .inBlock 0, .code (nav [1, 1, 1] body)])
    (T' := [some (.int .u8 x0), some (.int .u8 x1), none, none, some (.int .u8 0), some (.int .i64 i_1_5), some (.int .i64 (i_1_6 + 1)), none, some (.int .i64 i_1_6), some (.bool (decide ((i_1_6 : Int) < 8))), some (.int .i64 i_1_6), some (.int .i64 (i_1_6 + 1)), some (.int .u8 x1), some (.int .i64 x1), some (.int .i64 i_1_6), some (.int .u64 (wrapE .u64 i_1_6)), some (.int .i64 (x1 / 2 ^ (Int.toNat (wrapE .u64 i_1_6)))), some (.int .i64 ((x1 / 2 ^ (Int.toNat (wrapE .u64 i_1_6))) % 2)), some (.bool (decide (((x1 / 2 ^ (Int.toNat (wrapE .u64 i_1_6))) % 2 : Int) = 1))), none, none, none, none, none, none, none, none, none, none, none, none, none, none, none, none, none, none, none, none, none, none, none, none, none])
    (H' := [])
    (C := (True ∧ (True ∧ ((True ∧ (True ∧ (True ∧ (True ∧ True)))) ∧ (((decide ((i_1_6 : Int) < 8)) = true) ∧ (True ∧ (True ∧ (True ∧ (True ∧ ((True ∧ (True ∧ (True ∧ (((-9223372036854775808 : Int) ≤ x1 ∧ (x1 : Int) ≤ 9223372036854775807) ∧ (True ∧ (True ∧ (True ∧ (True ∧ (True ∧ (((0 : Int) ≤ wrapE .u64 i_1_6 ∧ wrapE .u64 i_1_6 ≤ (IntKind.bits .i64 : Nat)) ∧ (True ∧ (((0 : Int) ≤ x1 / 2 ^ (Int.toNat (wrapE .u64 i_1_6)) ∧ (0 : Int) < 2) ∧ (True ∧ (True ∧ True)))))))))))))) ∧ (((decide (((x1 / 2 ^ (Int.toNat (wrapE .u64 i_1_6))) % 2 : Int) = 1)) = false) ∧ (True ∧ (True ∧ ((True ∧ (True ∧ (True ∧ (((-9223372036854775808 : Int) ≤ i_1_6 + 1 ∧ (i_1_6 + 1 : Int) ≤ 9223372036854775807) ∧ (True ∧ (True ∧ True)))))) ∧ (True ∧ True)))))))))))))))
    (by kernel_rfl) ⟨trivial, ⟨trivial, ⟨⟨trivial, ⟨trivial, ⟨trivial, ⟨trivial, trivial⟩⟩⟩⟩, ⟨h1, ⟨trivial, ⟨trivial, ⟨trivial, ⟨trivial, ⟨⟨trivial, ⟨trivial, ⟨trivial, ⟨h2, ⟨trivial, ⟨trivial, ⟨trivial, ⟨trivial, ⟨trivial, ⟨h3, ⟨trivial, ⟨h4, ⟨trivial, ⟨trivial, trivial⟩⟩⟩⟩⟩⟩⟩⟩⟩⟩⟩⟩⟩⟩, ⟨h5, ⟨trivial, ⟨trivial, ⟨⟨trivial, ⟨trivial, ⟨trivial, ⟨h6, ⟨trivial, ⟨trivial, trivial⟩⟩⟩⟩⟩⟩, ⟨trivial, trivial⟩⟩⟩⟩⟩⟩⟩⟩⟩⟩⟩⟩⟩⟩ ?_
  refine Ends.rekey (T' := [some (.int .u8 x0), some (.int .u8 x1), none, none, some (.int .u8 0), some (.int .i64 i_1_5), some (.int .i64 (i_1_6 + 1)), none, none, none, none, none, none, none, none, none, none, none, none, none, none, none, none, none, none, none, none, none, none, none, none, none, none, none, none, none, none, none, none, none, none, none, none, none]) (H' := []) [] ⟨rfl, rfl, Nat.le_of_ble_eq_true rfl⟩ rfl rfl (And.intro rfl (And.intro rfl (And.intro rfl (And.intro rfl (And.intro rfl trivial))))) ?_
  exact hE

theorem s5 {x0 : Int} {x1 : Int} {i_2_5 : Int} {i_2_7 : Int}  (h1 : (decide ((8 : Int) ≤ i_2_7)) = true) (h2 : (0 : Int) ≤ wrapE .u64 i_2_7 ∧ wrapE .u64 i_2_7 ≤ (IntKind.bits .i64 : Nat)) (h3 : (0 : Int) ≤ i_2_5 / 2 ^ (Int.toNat (wrapE .u64 i_2_7)) ∧ (0 : Int) < 2) (h4 : (decide (((i_2_5 / 2 ^ (Int.toNat (wrapE .u64 i_2_7))) % 2 : Int) = 1)) = true) (h5 : (-9223372036854775808 : Int) ≤ i_2_7 - 8 ∧ (i_2_7 - 8 : Int) ≤ 9223372036854775807) (h6 : (0 : Int) ≤ wrapE .u64 (i_2_7 - 8) ∧ wrapE .u64 (i_2_7 - 8) ≤ (IntKind.bits .i64 : Nat)) (h7 : (-9223372036854775808 : Int) ≤ i_2_7 - 1 ∧ (i_2_7 - 1 : Int) ≤ 9223372036854775807) {v : Value} {Hf : Heap} (hE : at2 x0 x1 (Go.bits .xor .i64 i_2_5 (wrapE .i64 (283 * 2 ^ (Int.toNat (wrapE .u64 (i_2_7 - 8)))))) (i_2_7 - 1) v Hf) : at2 x0 x1 i_2_5 i_2_7 v Hf := by
  refine Ends.run θok mixed (n := 14) (hs := [.b true, .b true, .b true])
    (todo' := [.code (nav [1, 1, 1, 0, 1, 0, 0] body), .inLoop (nav [1, 1, 1, 0, 1, 0, 0] body), .inBlock 2, .code (nav [1, 1, 1, 1] body)])
    (T' := [none, none, none, none, some (.int .u8 0), some (.int .i64 (Go.bits .xor .i64 i_2_5 (wrapE .i64 (283 * 2 ^ (Int.toNat (wrapE .u64 (i_2_7 - 8))))))), none, some (.int .i64 (i_2_7 - 1)), none, none, none, none, none, none, none, none, none, none, none, none, none, none, none, none, none, none, some (.int .i64 i_2_7), some (.bool (decide ((8 : Int) ≤ i_2_7))), some (.int .i64 i_2_7), some (.int .i64 (i_2_7 - 1)), some (.int .i64 i_2_5), some (.int .i64 i_2_7), some (.int .u64 (wrapE .u64 i_2_7)), some (.int .i64 (i_2_5 / 2 ^ (Int.toNat (wrapE .u64 i_2_7)))), some (.int .i64 ((i_2_5 / 2 ^ (Int.toNat (wrapE .u64 i_2_7))) % 2)), some (.bool (decide (((i_2_5 / 2 ^ (Int.toNat (wrapE .u64 i_2_7))) % 2 : Int) = 1))), some (.int .i64 i_2_5), some (.int .i64 i_2_7), some (.int .i64 (i_2_7 - 8)), some (.int .u64 (wrapE .u64 (i_2_7 - 8))), some (.int .i64 (wrapE .i64 (283 * 2 ^ (Int.toNat (wrapE .u64 (i_2_7 - 8)))))), some (.int .i64 (Go.bits .xor .i64 i_2_5 (wrapE .i64 (283 * 2 ^ (Int.toNat (wrapE .u64 (i_2_7 - 8))))))), none, none])
    (H' := [])
    (C := (True ∧ (True ∧ ((True ∧ (True ∧ (True ∧ (True ∧ True)))) ∧ (((decide ((8 : Int) ≤ i_2_7)) = true) ∧ (True ∧ (True ∧ (True ∧ (True ∧ ((True ∧ (True ∧ (True ∧ (True ∧ (True ∧ (True ∧ (True ∧ (((0 : Int) ≤ wrapE .u64 i_2_7 ∧ wrapE .u64 i_2_7 ≤ (IntKind.bits .i64 : Nat)) ∧ (True ∧ (((0 : Int) ≤ i_2_5 / 2 ^ (Int.toNat (wrapE .u64 i_2_7)) ∧ (0 : Int) < 2) ∧ (True ∧ (True ∧ True)))))))))))) ∧ (((decide (((i_2_5 / 2 ^ (Int.toNat (wrapE .u64 i_2_7))) % 2 : Int) = 1)) = true) ∧ ((True ∧ (True ∧ (True ∧ (True ∧ (True ∧ (((-9223372036854775808 : Int) ≤ i_2_7 - 8 ∧ (i_2_7 - 8 : Int) ≤ 9223372036854775807) ∧ (True ∧ (True ∧ (True ∧ (((0 : Int) ≤ wrapE .u64 (i_2_7 - 8) ∧ wrapE .u64 (i_2_7 - 8) ≤ (IntKind.bits .i64 : Nat)) ∧ (True ∧ (True ∧ (True ∧ (True ∧ True)))))))))))))) ∧ (True ∧ ((True ∧ (True ∧ (True ∧ (((-9223372036854775808 : Int) ≤ i_2_7 - 1 ∧ (i_2_7 - 1 : Int) ≤ 9223372036854775807) ∧ (True ∧ (True ∧ True)))))) ∧ (True ∧ True)))))))))))))))
    (by kernel_rfl) ⟨trivial, ⟨trivial, ⟨⟨trivial, ⟨trivial, ⟨trivial, ⟨trivial, trivial⟩⟩⟩⟩, ⟨h1, ⟨trivial, ⟨trivial, ⟨trivial, ⟨trivial, ⟨⟨trivial, ⟨trivial, ⟨trivial, ⟨trivial, ⟨trivial, ⟨trivial, ⟨trivial, ⟨h2, ⟨trivial, ⟨h3, ⟨trivial, ⟨trivial, trivial⟩⟩⟩⟩⟩⟩⟩⟩⟩⟩⟩⟩, ⟨h4, ⟨⟨trivial, ⟨trivial, ⟨trivial, ⟨trivial, ⟨trivial, ⟨h5, ⟨trivial, ⟨trivial, ⟨trivial, ⟨h6, ⟨trivial, ⟨trivial, ⟨trivial, ⟨trivial, trivial⟩⟩⟩⟩⟩⟩⟩⟩⟩⟩⟩⟩⟩⟩, ⟨trivial, ⟨⟨trivial, ⟨trivial, ⟨trivial, ⟨h7, ⟨trivial, ⟨trivial, trivial⟩⟩⟩⟩⟩⟩, ⟨trivial, trivial⟩⟩⟩⟩⟩⟩⟩⟩⟩⟩⟩⟩⟩⟩ ?_
  refine Ends.rekey (T' := [none, none, none, none, some (.int .u8 0), some (.int .i64 (Go.bits .xor .i64 i_2_5 (wrapE .i64 (283 * 2 ^ (Int.toNat (wrapE .u64 (i_2_7 - 8))))))), none, some (.int .i64 (i_2_7 - 1)), none, none, none, none, none, none, none, none, none, none, none, none, none, none, none, none, none, none, none, none, none, none, none, none, none, none, none, none, none, none, none, none, none, none, none, none]) (H' := []) [] ⟨rfl, rfl, Nat.le_of_ble_eq_true rfl⟩ rfl rfl (And.intro rfl (And.intro rfl (And.intro rfl trivial))) ?_
  exact hE

theorem s6 {x0 : Int} {x1 : Int} {i_2_5 : Int} {i_2_7 : Int}  (h1 : (decide ((8 : Int) ≤ i_2_7)) = false) : at2 x0 x1 i_2_5 i_2_7 (.int .u8 (wrapE .u8 i_2_5)) [] := by
  refine Ends.run θok mixed (n := 7) (hs := [.b false])
    (todo' := [.code (nav [1, 1, 1, 1, 1] body)])
    (T' := [none, none, none, none, some (.int .u8 (wrapE .u8 i_2_5)), some (.int .i64 i_2_5), none, some (.int .i64 i_2_7), none, none, none, none, none, none, none, none, none, none, none, none, none, none, none, none, none, none, some (.int .i64 i_2_7), some (.bool (decide ((8 : Int) ≤ i_2_7))), none, none, none, none, none, none, none, none, none, none, none, none, none, none, some (.int .i64 i_2_5), some (.int .u8 (wrapE .u8 i_2_5))])
    (H' := [])
    (C := (True ∧ (True ∧ ((True ∧ (True ∧ (True ∧ (True ∧ True)))) ∧ (((decide ((8 : Int) ≤ i_2_7)) = false) ∧ (True ∧ (True ∧ ((True ∧ (True ∧ (True ∧ (True ∧ (True ∧ (True ∧ True)))))) ∧ True))))))))
    (by kernel_rfl) ⟨trivial, ⟨trivial, ⟨⟨trivial, ⟨trivial, ⟨trivial, ⟨trivial, trivial⟩⟩⟩⟩, ⟨h1, ⟨trivial, ⟨trivial, ⟨⟨trivial, ⟨trivial, ⟨trivial, ⟨trivial, ⟨trivial, ⟨trivial, trivial⟩⟩⟩⟩⟩⟩, trivial⟩⟩⟩⟩⟩⟩⟩ ?_
  refine Ends.rekey (T' := [none, none, none, none, some (.int .u8 (wrapE .u8 i_2_5)), none, none, none, none, none, none, none, none, none, none, none, none, none, none, none, none, none, none, none, none, none, none, none, none, none, none, none, none, none, none, none, none, none, none, none, none, none, none, none]) (H' := []) [] ⟨rfl, rfl, Nat.le_of_ble_eq_true rfl⟩ rfl rfl (And.intro rfl trivial) ?_
  exact (Ends.ret θok (C := (True ∧ True)) (by kernel_rfl) ⟨trivial, trivial⟩)

theorem s7 {x0 : Int} {x1 : Int} {i_2_5 : Int} {i_2_7 : Int}  (h1 : (decide ((8 : Int) ≤ i_2_7)) = true) (h2 : (0 : Int) ≤ wrapE .u64 i_2_7 ∧ wrapE .u64 i_2_7 ≤ (IntKind.bits .i64 : Nat)) (h3 : (0 : Int) ≤ i_2_5 / 2 ^ (Int.toNat (wrapE .u64 i_2_7)) ∧ (0 : Int) < 2) (h4 : (decide (((i_2_5 / 2 ^ (Int.toNat (wrapE .u64 i_2_7))) % 2 : Int) = 1)) = false) (h5 : (-9223372036854775808 : Int) ≤ i_2_7 - 1 ∧ (i_2_7 - 1 : Int) ≤ 9223372036854775807) {v : Value} {Hf : Heap} (hE : at2 x0 x1 i_2_5 (i_2_7 - 1) v Hf) : at2 x0 x1 i_2_5 i_2_7 v Hf := by
  refine Ends.run θok mixed (n := 14) (hs := [.b true, .b true, .b false])
    (todo' := [.code (nav [1, 1, 1, 0, 1, 0, 0] body), .inLoop (nav [1, 1, 1, 0, 1, 0, 0] body), .inBlock 2, .code (nav [1, 1, 1, 1] body)])
    (T' := [none, none, none, none, some (.int .u8 0), some (.int .i64 i_2_5), none, some (.int .i64 (i_2_7 - 1)), none, none, none, none, none, none, none, none, none, none, none, none, none, none, none, none, none, none, some (.int .i64 i_2_7), some (.bool (decide ((8 : Int) ≤ i_2_7))), some (.int .i64 i_2_7), some (.int .i64 (i_2_7 - 1)), some (.int .i64 i_2_5), some (.int .i64 i_2_7), some (.int .u64 (wrapE .u64 i_2_7)), some (.int .i64 (i_2_5 / 2 ^ (Int.toNat (wrapE .u64 i_2_7)))), some (.int .i64 ((i_2_5 / 2 ^ (Int.toNat (wrapE .u64 i_2_7))) % 2)), some (.bool (decide (((i_2_5 / 2 ^ (Int.toNat (wrapE .u64 i_2_7))) % 2 : Int) = 1))), none, none, none, none, none, none, none, none])
    (H' := [])
    (C := (True ∧ (True ∧ ((True ∧ (True ∧ (True ∧ (True ∧ True)))) ∧ (((decide ((8 : Int) ≤ i_2_7)) = true) ∧ (True ∧ (True ∧ (True ∧ (True ∧ ((True ∧ (True ∧ (True ∧ (True ∧ (True ∧ (True ∧ (True ∧ (((0 : Int) ≤ wrapE .u64 i_2_7 ∧ wrapE .u64 i_2_7 ≤ (IntKind.bits .i64 : Nat)) ∧ (True ∧ (((0 : Int) ≤ i_2_5 / 2 ^ (Int.toNat (wrapE .u64 i_2_7)) ∧ (0 : Int) < 2) ∧ (True ∧ (True ∧ True)))))))))))) ∧ (((decide (((i_2_5 / 2 ^ (Int.toNat (wrapE .u64 i_2_7))) % 2 : Int) = 1)) = false) ∧ (True ∧ (True ∧ ((True ∧ (True ∧ (True ∧ (((-9223372036854775808 : Int) ≤ i_2_7 - 1 ∧ (i_2_7 - 1 : Int) ≤ 9223372036854775807) ∧ (True ∧ (True ∧ True)))))) ∧ (True ∧ True)))))))))))))))
    (by kernel_rfl) ⟨trivial, ⟨trivial, ⟨⟨trivial, ⟨trivial, ⟨trivial, ⟨trivial, trivial⟩⟩⟩⟩, ⟨h1, ⟨trivial, ⟨trivial, ⟨trivial, ⟨trivial, ⟨⟨trivial, ⟨trivial, ⟨trivial, ⟨trivial, ⟨trivial, ⟨trivial, ⟨trivial, ⟨h2, ⟨trivial, ⟨h3, ⟨trivial, ⟨trivial, trivial⟩⟩⟩⟩⟩⟩⟩⟩⟩⟩⟩⟩, ⟨h4, ⟨trivial, ⟨trivial, ⟨⟨trivial, ⟨trivial, ⟨trivial, ⟨h5, ⟨trivial, ⟨trivial, trivial⟩⟩⟩⟩⟩⟩, ⟨trivial, trivial⟩⟩⟩⟩⟩⟩⟩⟩⟩⟩⟩⟩⟩⟩ ?_
  refine Ends.rekey (T' := [none, none, none, none, some (.int .u8 0), some (.int .i64 i_2_5), none, some (.int .i64 (i_2_7 - 1)), none, none, none, none, none, none, none, none, none, none, none, none, none, none, none, none, none, none, none, none, none, none, none, none, none, none, none, none, none, none, none, none, none, none, none, none]) (H' := []) [] ⟨rfl, rfl, Nat.le_of_ble_eq_true rfl⟩ rfl rfl (And.intro rfl (And.intro rfl (And.intro rfl trivial))) ?_
  exact hE

end f19

/-! "lockbox/lockboxref07.Log" -/
namespace f10

noncomputable def body : Code := (Try.f10.body).getD .skip

abbrev H0 (x0 : Int) : Heap := []

def at0 (x0 : Int)  (v : Value) (Hf : Heap) : Prop :=
  Ends Try.prog Try.f10 (H0 x0) [.code (nav [] body)] [some (.int .u8 x0), none, none, none, none, none, none, none, none, none, none, none, none, none, none, none] [] v Hf

def at1 (x0 : Int) (i_1_4 : Int) (i_1_5 : Int) (v : Value) (Hf : Heap) : Prop :=
  Ends Try.prog Try.f10 (H0 x0) [.code (nav [1, 1, 0, 1, 0, 0] body), .inLoop (nav [1, 1, 0, 1, 0, 0] body), .inBlock 0, .code (nav [1, 1, 1] body)] [some (.int .u8 x0), none, some (.int .i64 0), some (.int .i64 0), some (.int .u8 i_1_4), some (.int .i64 i_1_5), none, none, none, none, none, none, none, none, none, none] [] v Hf

theorem ok {x0 : Int} {v : Value} {Hf : Heap} (h : at0 x0 v Hf) : FnOk Try.prog 10 [.int .u8 x0] [] v Hf :=
  Ends.fnOk Try.func10 (c := body) (by kernel_rfl) (by kernel_rfl) (by kernel_rfl) h

theorem s1 {x0 : Int}    {v : Value} {Hf : Heap} (hE : at1 x0 1 0 v Hf) : at0 x0  v Hf := by
  refine Ends.run θok mixed (n := 9) (hs := [])
    (todo' := [.code (nav [1, 1, 0, 1, 0, 0] body), .inLoop (nav [1, 1, 0, 1, 0, 0] body), .inBlock 0, .code (nav [1, 1, 1] body)])
    (T' := [some (.int .u8 x0), none, some (.int .i64 0), some (.int .i64 0), some (.int .u8 1), some (.int .i64 0), none, none, none, none, none, none, none, none, none, none])
    (H' := [])
    (C := (True ∧ ((True ∧ (True ∧ (True ∧ (True ∧ True)))) ∧ (True ∧ ((True ∧ (True ∧ True)) ∧ (True ∧ (True ∧ ((True ∧ (True ∧ True)) ∧ (True ∧ (True ∧ True))))))))))
    (by kernel_rfl) ⟨trivial, ⟨⟨trivial, ⟨trivial, ⟨trivial, ⟨trivial, trivial⟩⟩⟩⟩, ⟨trivial, ⟨⟨trivial, ⟨trivial, trivial⟩⟩, ⟨trivial, ⟨trivial, ⟨⟨trivial, ⟨trivial, trivial⟩⟩, ⟨trivial, ⟨trivial, trivial⟩⟩⟩⟩⟩⟩⟩⟩⟩ ?_
  refine Ends.rekey (T' := [some (.int .u8 x0), none, some (.int .i64 0), some (.int .i64 0), some (.int .u8 1), some (.int .i64 0), none, none, none, none, none, none, none, none, none, none]) (H' := []) [] ⟨rfl, rfl, Nat.le_of_ble_eq_true rfl⟩ rfl rfl (And.intro rfl (And.intro rfl (And.intro rfl (And.intro rfl (And.intro rfl trivial))))) ?_
  exact hE

theorem s2 {x0 : Int} {i_1_4 : Int} {i_1_5 : Int}  (h1 : (decide ((i_1_5 : Int) < 255)) = true) (h2 : (decide ((i_1_4 : Int) = x0)) = true) : at1 x0 i_1_4 i_1_5 (.tuple #[.int .i64 i_1_5, .int .i64 0]) [] := by
  refine Ends.run θok mixed (n := 13) (hs := [.b true, .b true])
    (todo' := [.code (nav [1, 1, 0, 1, 0, 0, 1, 0, 0, 0, 1, 0, 1] body), .code (nav [1, 1, 0, 1, 0, 0, 1, 0, 0, 1] body), .inBlock 1, .code (nav [1, 1, 0, 1, 0, 0, 1, 1] body), .inLoop (nav [1, 1, 0, 1, 0, 0] body), .inBlock 0, .code (nav [1, 1, 1] body)])
    (T' := [some (.int .u8 x0), none, some (.int .i64 i_1_5), some (.int .i64 0), some (.int .u8 i_1_4), some (.int .i64 i_1_5), some (.int .i64 i_1_5), some (.bool (decide ((i_1_5 : Int) < 255))), none, none, some (.int .u8 i_1_4), some (.int .u8 x0), some (.bool (decide ((i_1_4 : Int) = x0))), some (.int .i64 i_1_5), none, none])
    (H' := [])
    (C := (True ∧ (True ∧ ((True ∧ (True ∧ (True ∧ (True ∧ True)))) ∧ (((decide ((i_1_5 : Int) < 255)) = true) ∧ (True ∧ (True ∧ (True ∧ (True ∧ (True ∧ ((True ∧ (True ∧ (True ∧ (True ∧ (True ∧ (True ∧ True)))))) ∧ (((decide ((i_1_4 : Int) = x0)) = true) ∧ (True ∧ ((True ∧ (True ∧ (True ∧ (True ∧ (True ∧ (True ∧ True)))))) ∧ True))))))))))))))
    (by kernel_rfl) ⟨trivial, ⟨trivial, ⟨⟨trivial, ⟨trivial, ⟨trivial, ⟨trivial, trivial⟩⟩⟩⟩, ⟨h1, ⟨trivial, ⟨trivial, ⟨trivial, ⟨trivial, ⟨trivial, ⟨⟨trivial, ⟨trivial, ⟨trivial, ⟨trivial, ⟨trivial, ⟨trivial, trivial⟩⟩⟩⟩⟩⟩, ⟨h2, ⟨trivial, ⟨⟨trivial, ⟨trivial, ⟨trivial, ⟨trivial, ⟨trivial, ⟨trivial, trivial⟩⟩⟩⟩⟩⟩, trivial⟩⟩⟩⟩⟩⟩⟩⟩⟩⟩⟩⟩⟩ ?_
  refine Ends.rekey (T' := [none, none, some (.int .i64 i_1_5), some (.int .i64 0), none, none, none, none, none, none, none, none, none, none, none, none]) (H' := []) [] ⟨rfl, rfl, Nat.le_of_ble_eq_true rfl⟩ rfl rfl (And.intro rfl (And.intro rfl trivial)) ?_
  exact (Ends.ret θok (C := (True ∧ (True ∧ True))) (by kernel_rfl) ⟨trivial, ⟨trivial, trivial⟩⟩)

theorem s3 {x0 : Int} {i_1_4 : Int} {i_1_5 : Int}  (h1 : (decide ((i_1_5 : Int) < 255)) = false) : at1 x0 i_1_4 i_1_5 (.tuple #[.int .i64 0, .int .i64 1]) [] := by
  refine Ends.run θok mixed (n := 7) (hs := [.b false])
    (todo' := [.code (nav [1, 1, 1, 1] body)])
    (T' := [some (.int .u8 x0), none, some (.int .i64 0), some (.int .i64 1), some (.int .u8 i_1_4), some (.int .i64 i_1_5), some (.int .i64 i_1_5), some (.bool (decide ((i_1_5 : Int) < 255))), none, none, none, none, none, none, none, none])
    (H' := [])
    (C := (True ∧ (True ∧ ((True ∧ (True ∧ (True ∧ (True ∧ True)))) ∧ (((decide ((i_1_5 : Int) < 255)) = false) ∧ (True ∧ (True ∧ ((True ∧ (True ∧ (True ∧ (True ∧ True)))) ∧ True))))))))
    (by kernel_rfl) ⟨trivial, ⟨trivial, ⟨⟨trivial, ⟨trivial, ⟨trivial, ⟨trivial, trivial⟩⟩⟩⟩, ⟨h1, ⟨trivial, ⟨trivial, ⟨⟨trivial, ⟨trivial, ⟨trivial, ⟨trivial, trivial⟩⟩⟩⟩, trivial⟩⟩⟩⟩⟩⟩⟩ ?_
  refine Ends.rekey (T' := [none, none, some (.int .i64 0), some (.int .i64 1), none, none, none, none, none, none, none, none, none, none, none, none]) (H' := []) [] ⟨rfl, rfl, Nat.le_of_ble_eq_true rfl⟩ rfl rfl (And.intro rfl (And.intro rfl trivial)) ?_
  exact (Ends.ret θok (C := (True ∧ (True ∧ True))) (by kernel_rfl) ⟨trivial, ⟨trivial, trivial⟩⟩)

theorem s4 {x0 : Int} {i_1_4 : Int} {i_1_5 : Int} {r1 : Int} (h1 : (decide ((i_1_5 : Int) < 255)) = true) (h2 : (decide ((i_1_4 : Int) = x0)) = false) (h3 : Pure Try.prog 19 [.int .u8 i_1_4, .int .u8 3] (.int .u8 r1)) (h4 : (-9223372036854775808 : Int) ≤ i_1_5 + 1 ∧ (i_1_5 + 1 : Int) ≤ 9223372036854775807) {v : Value} {Hf : Heap} (hE : at1 x0 r1 (i_1_5 + 1) v Hf) : at1 x0 i_1_4 i_1_5 v Hf := by
  refine Ends.run θok mixed (n := 16) (hs := [.b true, .b false, .call (.int .u8 r1)])
    (todo' := [.code (nav [1, 1, 0, 1, 0, 0] body), .inLoop (nav [1, 1, 0, 1, 0, 0] body), .inBlock 0, .code (nav [1, 1, 1] body)])
    (T' := [some (.int .u8 x0), none, some (.int .i64 0), some (.int .i64 0), some (.int .u8 r1), some (.int .i64 (i_1_5 + 1)), some (.int .i64 i_1_5), some (.bool (decide ((i_1_5 : Int) < 255))), some (.int .i64 i_1_5), some (.int .i64 (i_1_5 + 1)), some (.int .u8 i_1_4), some (.int .u8 x0), some (.bool (decide ((i_1_4 : Int) = x0))), none, some (.int .u8 i_1_4), some (.int .u8 r1)])
    (H' := [])
    (C := (True ∧ (True ∧ ((True ∧ (True ∧ (True ∧ (True ∧ True)))) ∧ (((decide ((i_1_5 : Int) < 255)) = true) ∧ (True ∧ (True ∧ (True ∧ (True ∧ (True ∧ ((True ∧ (True ∧ (True ∧ (True ∧ (True ∧ (True ∧ True)))))) ∧ (((decide ((i_1_4 : Int) = x0)) = false) ∧ (True ∧ ((True ∧ (True ∧ (True ∧ ((FlatL [.int .u8 i_1_4, .int .u8 3] ∧ Pure Try.prog 19 [.int .u8 i_1_4, .int .u8 3] (.int .u8 r1)) ∧ (True ∧ (True ∧ True)))))) ∧ (True ∧ ((True ∧ (True ∧ (True ∧ (((-9223372036854775808 : Int) ≤ i_1_5 + 1 ∧ (i_1_5 + 1 : Int) ≤ 9223372036854775807) ∧ (True ∧ (True ∧ True)))))) ∧ (True ∧ True)))))))))))))))))
    (by kernel_rfl) ⟨trivial, ⟨trivial, ⟨⟨trivial, ⟨trivial, ⟨trivial, ⟨trivial, trivial⟩⟩⟩⟩, ⟨h1, ⟨trivial, ⟨trivial, ⟨trivial, ⟨trivial, ⟨trivial, ⟨⟨trivial, ⟨trivial, ⟨trivial, ⟨trivial, ⟨trivial, ⟨trivial, trivial⟩⟩⟩⟩⟩⟩, ⟨h2, ⟨trivial, ⟨⟨trivial, ⟨trivial, ⟨trivial, ⟨⟨by simp [FlatL, Flat, Flat2, Flat1, Row.cells], h3⟩, ⟨trivial, ⟨trivial, trivial⟩⟩⟩⟩⟩⟩, ⟨trivial, ⟨⟨trivial, ⟨trivial, ⟨trivial, ⟨h4, ⟨trivial, ⟨trivial, trivial⟩⟩⟩⟩⟩⟩, ⟨trivial, trivial⟩⟩⟩⟩⟩⟩⟩⟩⟩⟩⟩⟩⟩⟩⟩⟩ ?_
  refine Ends.rekey (T' := [some (.int .u8 x0), none, some (.int .i64 0), some (.int .i64 0), some (.int .u8 r1), some (.int .i64 (i_1_5 + 1)), none, none, none, none, none, none, none, none, none, none]) (H' := []) [] ⟨rfl, rfl, Nat.le_of_ble_eq_true rfl⟩ rfl rfl (And.intro rfl (And.intro rfl (And.intro rfl (And.intro rfl (And.intro rfl trivial))))) ?_
  exact hE

end f10

/-! "lockbox/gf.rest" -/
namespace f26

noncomputable def body : Code := (Try.f26.body).getD .skip

abbrev H0 (x0 : Int) : Heap := []

def at0 (x0 : Int)  (v : Value) (Hf : Heap) : Prop :=
  Ends Try.prog Try.f26 (H0 x0) [.code (nav [] body)] [some (.int .i64 x0), none, none, none, none, none, none, none, none, none] [] v Hf

theorem ok {x0 : Int} {v : Value} {Hf : Heap} (h : at0 x0 v Hf) : FnOk Try.prog 26 [.int .i64 x0] [] v Hf :=
  Ends.fnOk Try.func26 (c := body) (by kernel_rfl) (by kernel_rfl) (by kernel_rfl) h

theorem s1 {x0 : Int}   (h1 : (decide ((Int.tmod x0 255 : Int) < 0)) = true) (h2 : (-9223372036854775808 : Int) ≤ (Int.tmod x0 255) + 255 ∧ ((Int.tmod x0 255) + 255 : Int) ≤ 9223372036854775807) : at0 x0  (.int .i64 ((Int.tmod x0 255) + 255)) [] := by
  refine Ends.run θok mixed (n := 11) (hs := [.b false, .b true])
    (todo' := [.code (nav [1, 1, 1, 1] body)])
    (T' := [some (.int .i64 ((Int.tmod x0 255) + 255)), none, some (.int .i64 ((Int.tmod x0 255) + 255)), some (.int .i64 x0), some (.int .i64 (Int.tmod x0 255)), some (.int .i64 (Int.tmod x0 255)), some (.bool (decide ((Int.tmod x0 255 : Int) < 0))), some (.int .i64 (Int.tmod x0 255)), some (.int .i64 ((Int.tmod x0 255) + 255)), some (.int .i64 ((Int.tmod x0 255) + 255))])
    (H' := [])
    (C := (True ∧ ((True ∧ (True ∧ True)) ∧ (True ∧ ((True ∧ (True ∧ (True ∧ (((255 : Int) ≠ 0) ∧ (True ∧ (True ∧ True)))))) ∧ (True ∧ (True ∧ ((True ∧ (True ∧ (True ∧ (True ∧ True)))) ∧ (((decide ((Int.tmod x0 255 : Int) < 0)) = true) ∧ ((True ∧ (True ∧ (True ∧ (((-9223372036854775808 : Int) ≤ (Int.tmod x0 255) + 255 ∧ ((Int.tmod x0 255) + 255 : Int) ≤ 9223372036854775807) ∧ (True ∧ (True ∧ True)))))) ∧ (True ∧ ((True ∧ (True ∧ (True ∧ (True ∧ True)))) ∧ True))))))))))))
    (by kernel_rfl) ⟨trivial, ⟨⟨trivial, ⟨trivial, trivial⟩⟩, ⟨trivial, ⟨⟨trivial, ⟨trivial, ⟨trivial, ⟨(by decide), ⟨trivial, ⟨trivial, trivial⟩⟩⟩⟩⟩⟩, ⟨trivial, ⟨trivial, ⟨⟨trivial, ⟨trivial, ⟨trivial, ⟨trivial, trivial⟩⟩⟩⟩, ⟨h1, ⟨⟨trivial, ⟨trivial, ⟨trivial, ⟨h2, ⟨trivial, ⟨trivial, trivial⟩⟩⟩⟩⟩⟩, ⟨trivial, ⟨⟨trivial, ⟨trivial, ⟨trivial, ⟨trivial, trivial⟩⟩⟩⟩, trivial⟩⟩⟩⟩⟩⟩⟩⟩⟩⟩⟩ ?_
  refine Ends.rekey (T' := [none, none, some (.int .i64 ((Int.tmod x0 255) + 255)), none, none, none, none, none, none, none]) (H' := []) [] ⟨rfl, rfl, Nat.le_of_ble_eq_true rfl⟩ rfl rfl (And.intro rfl trivial) ?_
  exact (Ends.ret θok (C := (True ∧ True)) (by kernel_rfl) ⟨trivial, trivial⟩)

theorem s2 {x0 : Int}   (h1 : (decide ((Int.tmod x0 255 : Int) < 0)) = false) : at0 x0  (.int .i64 (Int.tmod x0 255)) [] := by
  refine Ends.run θok mixed (n := 11) (hs := [.b false, .b false])
    (todo' := [.code (nav [1, 1, 1, 1] body)])
    (T' := [some (.int .i64 (Int.tmod x0 255)), none, some (.int .i64 (Int.tmod x0 255)), some (.int .i64 x0), some (.int .i64 (Int.tmod x0 255)), some (.int .i64 (Int.tmod x0 255)), some (.bool (decide ((Int.tmod x0 255 : Int) < 0))), none, none, some (.int .i64 (Int.tmod x0 255))])
    (H' := [])
    (C := (True ∧ ((True ∧ (True ∧ True)) ∧ (True ∧ ((True ∧ (True ∧ (True ∧ (((255 : Int) ≠ 0) ∧ (True ∧ (True ∧ True)))))) ∧ (True ∧ (True ∧ ((True ∧ (True ∧ (True ∧ (True ∧ True)))) ∧ (((decide ((Int.tmod x0 255 : Int) < 0)) = false) ∧ (True ∧ (True ∧ ((True ∧ (True ∧ (True ∧ (True ∧ True)))) ∧ True))))))))))))
    (by kernel_rfl) ⟨trivial, ⟨⟨trivial, ⟨trivial, trivial⟩⟩, ⟨trivial, ⟨⟨trivial, ⟨trivial, ⟨trivial, ⟨(by decide), ⟨trivial, ⟨trivial, trivial⟩⟩⟩⟩⟩⟩, ⟨trivial, ⟨trivial, ⟨⟨trivial, ⟨trivial, ⟨trivial, ⟨trivial, trivial⟩⟩⟩⟩, ⟨h1, ⟨trivial, ⟨trivial, ⟨⟨trivial, ⟨trivial, ⟨trivial, ⟨trivial, trivial⟩⟩⟩⟩, trivial⟩⟩⟩⟩⟩⟩⟩⟩⟩⟩⟩ ?_
  refine Ends.rekey (T' := [none, none, some (.int .i64 (Int.tmod x0 255)), none, none, none, none, none, none, none]) (H' := []) [] ⟨rfl, rfl, Nat.le_of_ble_eq_true rfl⟩ rfl rfl (And.intro rfl trivial) ?_
  exact (Ends.ret θok (C := (True ∧ True)) (by kernel_rfl) ⟨trivial, trivial⟩)

end f26

/-! "lockbox/gf.Exp" -/
namespace f11

noncomputable def body : Code := (Try.f11.body).getD .skip

abbrev H0 (x0 : Int) : Heap := []

def at0 (x0 : Int)  (v : Value) (Hf : Heap) : Prop :=
  Ends Try.prog Try.f11 (H0 x0) [.code (nav [] body)] [some (.int .i64 x0), none, none, none, none, none, none, none, none, none, none, none, none, none] [] v Hf

def at1 (x0 : Int) (i_1_3 : Int) (i_1_5 : Int) (i_1_6 : Int) (v : Value) (Hf : Heap) : Prop :=
  Ends Try.prog Try.f11 (H0 x0) [.code (nav [1, 1, 0, 1, 0, 0] body), .inLoop (nav [1, 1, 0, 1, 0, 0] body), .inBlock 0, .code (nav [1, 1, 1] body)] [none, none, some (.int .u8 0), some (.int .u8 i_1_3), none, some (.int .i64 i_1_5), some (.int .i64 i_1_6), none, none, none, none, none, none, none] [] v Hf

theorem ok {x0 : Int} {v : Value} {Hf : Heap} (h : at0 x0 v Hf) : FnOk Try.prog 11 [.int .i64 x0] [] v Hf :=
  Ends.fnOk Try.func11 (c := body) (by kernel_rfl) (by kernel_rfl) (by kernel_rfl) h

theorem s1 {x0 : Int}  {r1 : Int} (h1 : Pure Try.prog 26 [.int .i64 x0] (.int .i64 r1)) {v : Value} {Hf : Heap} (hE : at1 x0 1 r1 0 v Hf) : at0 x0  v Hf := by
  refine Ends.run θok mixed (n := 9) (hs := [.call (.int .i64 r1)])
    (todo' := [.code (nav [1, 1, 0, 1, 0, 0] body), .inLoop (nav [1, 1, 0, 1, 0, 0] body), .inBlock 0, .code (nav [1, 1, 1] body)])
    (T' := [some (.int .i64 x0), none, some (.int .u8 0), some (.int .u8 1), some (.int .i64 x0), some (.int .i64 r1), some (.int .i64 0), none, none, none, none, none, none, none])
    (H' := [])
    (C := (True ∧ ((True ∧ (True ∧ True)) ∧ (True ∧ ((True ∧ (True ∧ True)) ∧ (True ∧ (True ∧ ((True ∧ (True ∧ (True ∧ ((FlatL [.int .i64 x0] ∧ Pure Try.prog 26 [.int .i64 x0] (.int .i64 r1)) ∧ (True ∧ (True ∧ True)))))) ∧ (True ∧ (True ∧ True))))))))))
    (by kernel_rfl) ⟨trivial, ⟨⟨trivial, ⟨trivial, trivial⟩⟩, ⟨trivial, ⟨⟨trivial, ⟨trivial, trivial⟩⟩, ⟨trivial, ⟨trivial, ⟨⟨trivial, ⟨trivial, ⟨trivial, ⟨⟨by simp [FlatL, Flat, Flat2, Flat1, Row.cells], h1⟩, ⟨trivial, ⟨trivial, trivial⟩⟩⟩⟩⟩⟩, ⟨trivial, ⟨trivial, trivial⟩⟩⟩⟩⟩⟩⟩⟩⟩ ?_
  refine Ends.rekey (T' := [none, none, some (.int .u8 0), some (.int .u8 1), none, some (.int .i64 r1), some (.int .i64 0), none, none, none, none, none, none, none]) (H' := []) [] ⟨rfl, rfl, Nat.le_of_ble_eq_true rfl⟩ rfl rfl (And.intro rfl (And.intro rfl (And.intro rfl (And.intro rfl trivial)))) ?_
  exact hE

theorem s2 {x0 : Int} {i_1_3 : Int} {i_1_5 : Int} {i_1_6 : Int} {r1 : Int} (h1 : (decide ((i_1_6 : Int) < i_1_5)) = true) (h2 : Pure Try.prog 25 [.int .u8 i_1_3] (.int .u8 r1)) (h3 : (-9223372036854775808 : Int) ≤ i_1_6 + 1 ∧ (i_1_6 + 1 : Int) ≤ 9223372036854775807) {v : Value} {Hf : Heap} (hE : at1 x0 (Go.bits .xor .u8 i_1_3 r1) i_1_5 (i_1_6 + 1) v Hf) : at1 x0 i_1_3 i_1_5 i_1_6 v Hf := by
  refine Ends.run θok mixed (n := 11) (hs := [.b true, .call (.int .u8 r1)])
    (todo' := [.code (nav [1, 1, 0, 1, 0, 0] body), .inLoop (nav [1, 1, 0, 1, 0, 0] body), .inBlock 0, .code (nav [1, 1, 1] body)])
    (T' := [none, none, some (.int .u8 0), some (.int .u8 (Go.bits .xor .u8 i_1_3 r1)), none, some (.int .i64 i_1_5), some (.int .i64 (i_1_6 + 1)), some (.bool (decide ((i_1_6 : Int) < i_1_5))), some (.int .u8 i_1_3), some (.int .u8 i_1_3), some (.int .u8 r1), some (.int .u8 (Go.bits .xor .u8 i_1_3 r1)), some (.int .i64 (i_1_6 + 1)), none])
    (H' := [])
    (C := (True ∧ ((True ∧ (True ∧ True)) ∧ (True ∧ (((decide ((i_1_6 : Int) < i_1_5)) = true) ∧ (True ∧ (True ∧ (True ∧ ((True ∧ (True ∧ (True ∧ (True ∧ (True ∧ ((FlatL [.int .u8 i_1_3] ∧ Pure Try.prog 25 [.int .u8 i_1_3] (.int .u8 r1)) ∧ (True ∧ (True ∧ (True ∧ (True ∧ True)))))))))) ∧ (True ∧ ((True ∧ (((-9223372036854775808 : Int) ≤ i_1_6 + 1 ∧ (i_1_6 + 1 : Int) ≤ 9223372036854775807) ∧ (True ∧ (True ∧ True)))) ∧ (True ∧ True))))))))))))
    (by kernel_rfl) ⟨trivial, ⟨⟨trivial, ⟨trivial, trivial⟩⟩, ⟨trivial, ⟨h1, ⟨trivial, ⟨trivial, ⟨trivial, ⟨⟨trivial, ⟨trivial, ⟨trivial, ⟨trivial, ⟨trivial, ⟨⟨by simp [FlatL, Flat, Flat2, Flat1, Row.cells], h2⟩, ⟨trivial, ⟨trivial, ⟨trivial, ⟨trivial, trivial⟩⟩⟩⟩⟩⟩⟩⟩⟩⟩, ⟨trivial, ⟨⟨trivial, ⟨h3, ⟨trivial, ⟨trivial, trivial⟩⟩⟩⟩, ⟨trivial, trivial⟩⟩⟩⟩⟩⟩⟩⟩⟩⟩⟩ ?_
  refine Ends.rekey (T' := [none, none, some (.int .u8 0), some (.int .u8 (Go.bits .xor .u8 i_1_3 r1)), none, some (.int .i64 i_1_5), some (.int .i64 (i_1_6 + 1)), none, none, none, none, none, none, none]) (H' := []) [] ⟨rfl, rfl, Nat.le_of_ble_eq_true rfl⟩ rfl rfl (And.intro rfl (And.intro rfl (And.intro rfl (And.intro rfl trivial)))) ?_
  exact hE

theorem s3 {x0 : Int} {i_1_3 : Int} {i_1_5 : Int} {i_1_6 : Int}  (h1 : (decide ((i_1_6 : Int) < i_1_5)) = false) : at1 x0 i_1_3 i_1_5 i_1_6 (.int .u8 i_1_3) [] := by
  refine Ends.run θok mixed (n := 7) (hs := [.b false])
    (todo' := [.code (nav [1, 1, 1, 1] body)])
    (T' := [none, none, some (.int .u8 i_1_3), some (.int .u8 i_1_3), none, some (.int .i64 i_1_5), some (.int .i64 i_1_6), some (.bool (decide ((i_1_6 : Int) < i_1_5))), none, none, none, none, none, some (.int .u8 i_1_3)])
    (H' := [])
    (C := (True ∧ ((True ∧ (True ∧ True)) ∧ (True ∧ (((decide ((i_1_6 : Int) < i_1_5)) = false) ∧ (True ∧ (True ∧ ((True ∧ (True ∧ (True ∧ (True ∧ True)))) ∧ True))))))))
    (by kernel_rfl) ⟨trivial, ⟨⟨trivial, ⟨trivial, trivial⟩⟩, ⟨trivial, ⟨h1, ⟨trivial, ⟨trivial, ⟨⟨trivial, ⟨trivial, ⟨trivial, ⟨trivial, trivial⟩⟩⟩⟩, trivial⟩⟩⟩⟩⟩⟩⟩ ?_
  refine Ends.rekey (T' := [none, none, some (.int .u8 i_1_3), none, none, none, none, none, none, none, none, none, none, none]) (H' := []) [] ⟨rfl, rfl, Nat.le_of_ble_eq_true rfl⟩ rfl rfl (And.intro rfl trivial) ?_
  exact (Ends.ret θok (C := (True ∧ True)) (by kernel_rfl) ⟨trivial, trivial⟩)

end f11

/-! "lockbox/lockboxref07.Exp" -/
namespace f12

noncomputable def body : Code := (Try.f12.body).getD .skip

abbrev H0 (x0 : Int) : Heap := []

def at0 (x0 : Int)  (v : Value) (Hf : Heap) : Prop :=
  Ends Try.prog Try.f12 (H0 x0) [.code (nav [] body)] [some (.int .i64 x0), none, none, none, none, none, none, none, none, none, none, none, none, none, none, none, none, none, none, none] [] v Hf

def at1 (x0 : Int) (i_1_3 : Int) (i_1_4 : Int) (i_1_5 : Int) (v : Value) (Hf : Heap) : Prop :=
  Ends Try.prog Try.f12 (H0 x0) [.code (nav [1, 1, 1, 1, 0, 1, 0, 0] body), .inLoop (nav [1, 1, 1, 1, 0, 1, 0, 0] body), .inBlock 0, .code (nav [1, 1, 1, 1, 1] body)] [none, none, some (.int .u8 0), some (.int .i64 i_1_3), some (.int .u8 i_1_4), some (.int .i64 i_1_5), none, none, none, none, none, none, none, none, none, none, none, none, none, none] [] v Hf

theorem ok {x0 : Int} {v : Value} {Hf : Heap} (h : at0 x0 v Hf) : FnOk Try.prog 12 [.int .i64 x0] [] v Hf :=
  Ends.fnOk Try.func12 (c := body) (by kernel_rfl) (by kernel_rfl) (by kernel_rfl) h

theorem s1 {x0 : Int}   (h1 : (decide ((Int.tmod x0 255 : Int) < 0)) = true) (h2 : (-9223372036854775808 : Int) ≤ (Int.tmod x0 255) + 255 ∧ ((Int.tmod x0 255) + 255 : Int) ≤ 9223372036854775807) {v : Value} {Hf : Heap} (hE : at1 x0 ((Int.tmod x0 255) + 255) 1 0 v Hf) : at0 x0  v Hf := by
  refine Ends.run θok mixed (n := 16) (hs := [.b false, .b true])
    (todo' := [.code (nav [1, 1, 1, 1, 0, 1, 0, 0] body), .inLoop (nav [1, 1, 1, 1, 0, 1, 0, 0] body), .inBlock 0, .code (nav [1, 1, 1, 1, 1] body)])
    (T' := [some (.int .i64 x0), none, some (.int .u8 0), some (.int .i64 ((Int.tmod x0 255) + 255)), some (.int .u8 1), some (.int .i64 0), some (.int .i64 x0), some (.int .i64 (Int.tmod x0 255)), some (.int .i64 (Int.tmod x0 255)), some (.bool (decide ((Int.tmod x0 255 : Int) < 0))), some (.int .i64 (Int.tmod x0 255)), some (.int .i64 ((Int.tmod x0 255) + 255)), none, none, none, none, none, none, none, none])
    (H' := [])
    (C := (True ∧ ((True ∧ (True ∧ True)) ∧ (True ∧ ((True ∧ (True ∧ (True ∧ (((255 : Int) ≠ 0) ∧ (True ∧ (True ∧ True)))))) ∧ (True ∧ (True ∧ ((True ∧ (True ∧ (True ∧ (True ∧ True)))) ∧ (((decide ((Int.tmod x0 255 : Int) < 0)) = true) ∧ ((True ∧ (True ∧ (True ∧ (((-9223372036854775808 : Int) ≤ (Int.tmod x0 255) + 255 ∧ ((Int.tmod x0 255) + 255 : Int) ≤ 9223372036854775807) ∧ (True ∧ (True ∧ True)))))) ∧ (True ∧ ((True ∧ (True ∧ True)) ∧ (True ∧ (True ∧ ((True ∧ (True ∧ True)) ∧ (True ∧ (True ∧ True)))))))))))))))))
    (by kernel_rfl) ⟨trivial, ⟨⟨trivial, ⟨trivial, trivial⟩⟩, ⟨trivial, ⟨⟨trivial, ⟨trivial, ⟨trivial, ⟨(by decide), ⟨trivial, ⟨trivial, trivial⟩⟩⟩⟩⟩⟩, ⟨trivial, ⟨trivial, ⟨⟨trivial, ⟨trivial, ⟨trivial, ⟨trivial, trivial⟩⟩⟩⟩, ⟨h1, ⟨⟨trivial, ⟨trivial, ⟨trivial, ⟨h2, ⟨trivial, ⟨trivial, trivial⟩⟩⟩⟩⟩⟩, ⟨trivial, ⟨⟨trivial, ⟨trivial, trivial⟩⟩, ⟨trivial, ⟨trivial, ⟨⟨trivial, ⟨trivial, trivial⟩⟩, ⟨trivial, ⟨trivial, trivial⟩⟩⟩⟩⟩⟩⟩⟩⟩⟩⟩⟩⟩⟩⟩⟩ ?_
  refine Ends.rekey (T' := [none, none, some (.int .u8 0), some (.int .i64 ((Int.tmod x0 255) + 255)), some (.int .u8 1), some (.int .i64 0), none, none, none, none, none, none, none, none, none, none, none, none, none, none]) (H' := []) [] ⟨rfl, rfl, Nat.le_of_ble_eq_true rfl⟩ rfl rfl (And.intro rfl (And.intro rfl (And.intro rfl (And.intro rfl trivial)))) ?_
  exact hE

theorem s2 {x0 : Int}   (h1 : (decide ((Int.tmod x0 255 : Int) < 0)) = false) {v : Value} {Hf : Heap} (hE : at1 x0 (Int.tmod x0 255) 1 0 v Hf) : at0 x0  v Hf := by
  refine Ends.run θok mixed (n := 16) (hs := [.b false, .b false])
    (todo' := [.code (nav [1, 1, 1, 1, 0, 1, 0, 0] body), .inLoop (nav [1, 1, 1, 1, 0, 1, 0, 0] body), .inBlock 0, .code (nav [1, 1, 1, 1, 1] body)])
    (T' := [some (.int .i64 x0), none, some (.int .u8 0), some (.int .i64 (Int.tmod x0 255)), some (.int .u8 1), some (.int .i64 0), some (.int .i64 x0), some (.int .i64 (Int.tmod x0 255)), some (.int .i64 (Int.tmod x0 255)), some (.bool (decide ((Int.tmod x0 255 : Int) < 0))), none, none, none, none, none, none, none, none, none, none])
    (H' := [])
    (C := (True ∧ ((True ∧ (True ∧ True)) ∧ (True ∧ ((True ∧ (True ∧ (True ∧ (((255 : Int) ≠ 0) ∧ (True ∧ (True ∧ True)))))) ∧ (True ∧ (True ∧ ((True ∧ (True ∧ (True ∧ (True ∧ True)))) ∧ (((decide ((Int.tmod x0 255 : Int) < 0)) = false) ∧ (True ∧ (True ∧ ((True ∧ (True ∧ True)) ∧ (True ∧ (True ∧ ((True ∧ (True ∧ True)) ∧ (True ∧ (True ∧ True)))))))))))))))))
    (by kernel_rfl) ⟨trivial, ⟨⟨trivial, ⟨trivial, trivial⟩⟩, ⟨trivial, ⟨⟨trivial, ⟨trivial, ⟨trivial, ⟨(by decide), ⟨trivial, ⟨trivial, trivial⟩⟩⟩⟩⟩⟩, ⟨trivial, ⟨trivial, ⟨⟨trivial, ⟨trivial, ⟨trivial, ⟨trivial, trivial⟩⟩⟩⟩, ⟨h1, ⟨trivial, ⟨trivial, ⟨⟨trivial, ⟨trivial, trivial⟩⟩, ⟨trivial, ⟨trivial, ⟨⟨trivial, ⟨trivial, trivial⟩⟩, ⟨trivial, ⟨trivial, trivial⟩⟩⟩⟩⟩⟩⟩⟩⟩⟩⟩⟩⟩⟩⟩⟩ ?_
  refine Ends.rekey (T' := [none, none, some (.int .u8 0), some (.int .i64 (Int.tmod x0 255)), some (.int .u8 1), some (.int .i64 0), none, none, none, none, none, none, none, none, none, none, none, none, none, none]) (H' := []) [] ⟨rfl, rfl, Nat.le_of_ble_eq_true rfl⟩ rfl rfl (And.intro rfl (And.intro rfl (And.intro rfl (And.intro rfl trivial)))) ?_
  exact hE

theorem s3 {x0 : Int} {i_1_3 : Int} {i_1_4 : Int} {i_1_5 : Int} {r1 : Int} (h1 : (decide ((i_1_5 : Int) < i_1_3)) = true) (h2 : Pure Try.prog 19 [.int .u8 i_1_4, .int .u8 3] (.int .u8 r1)) (h3 : (-9223372036854775808 : Int) ≤ i_1_5 + 1 ∧ (i_1_5 + 1 : Int) ≤ 9223372036854775807) {v : Value} {Hf : Heap} (hE : at1 x0 i_1_3 r1 (i_1_5 + 1) v Hf) : at1 x0 i_1_3 i_1_4 i_1_5 v Hf := by
  refine Ends.run θok mixed (n := 11) (hs := [.b true, .call (.int .u8 r1)])
    (todo' := [.code (nav [1, 1, 1, 1, 0, 1, 0, 0] body), .inLoop (nav [1, 1, 1, 1, 0, 1, 0, 0] body), .inBlock 0, .code (nav [1, 1, 1, 1, 1] body)])
    (T' := [none, none, some (.int .u8 0), some (.int .i64 i_1_3), some (.int .u8 r1), some (.int .i64 (i_1_5 + 1)), none, none, none, none, none, none, some (.int .i64 i_1_5), some (.int .i64 i_1_3), some (.bool (decide ((i_1_5 : Int) < i_1_3))), some (.int .i64 i_1_5), some (.int .i64 (i_1_5 + 1)), some (.int .u8 i_1_4), some (.int .u8 r1), none])
    (H' := [])
    (C := (True ∧ (True ∧ ((True ∧ (True ∧ (True ∧ (True ∧ (True ∧ (True ∧ True)))))) ∧ (((decide ((i_1_5 : Int) < i_1_3)) = true) ∧ (True ∧ (True ∧ (True ∧ ((True ∧ (True ∧ (True ∧ ((FlatL [.int .u8 i_1_4, .int .u8 3] ∧ Pure Try.prog 19 [.int .u8 i_1_4, .int .u8 3] (.int .u8 r1)) ∧ (True ∧ (True ∧ True)))))) ∧ (True ∧ ((True ∧ (True ∧ (True ∧ (((-9223372036854775808 : Int) ≤ i_1_5 + 1 ∧ (i_1_5 + 1 : Int) ≤ 9223372036854775807) ∧ (True ∧ (True ∧ True)))))) ∧ (True ∧ True))))))))))))
    (by kernel_rfl) ⟨trivial, ⟨trivial, ⟨⟨trivial, ⟨trivial, ⟨trivial, ⟨trivial, ⟨trivial, ⟨trivial, trivial⟩⟩⟩⟩⟩⟩, ⟨h1, ⟨trivial, ⟨trivial, ⟨trivial, ⟨⟨trivial, ⟨trivial, ⟨trivial, ⟨⟨by simp [FlatL, Flat, Flat2, Flat1, Row.cells], h2⟩, ⟨trivial, ⟨trivial, trivial⟩⟩⟩⟩⟩⟩, ⟨trivial, ⟨⟨trivial, ⟨trivial, ⟨trivial, ⟨h3, ⟨trivial, ⟨trivial, trivial⟩⟩⟩⟩⟩⟩, ⟨trivial, trivial⟩⟩⟩⟩⟩⟩⟩⟩⟩⟩⟩ ?_
  refine Ends.rekey (T' := [none, none, some (.int .u8 0), some (.int .i64 i_1_3), some (.int .u8 r1), some (.int .i64 (i_1_5 + 1)), none, none, none, none, none, none, none, none, none, none, none, none, none, none]) (H' := []) [] ⟨rfl, rfl, Nat.le_of_ble_eq_true rfl⟩ rfl rfl (And.intro rfl (And.intro rfl (And.intro rfl (And.intro rfl trivial)))) ?_
  exact hE

theorem s4 {x0 : Int} {i_1_3 : Int} {i_1_4 : Int} {i_1_5 : Int}  (h1 : (decide ((i_1_5 : Int) < i_1_3)) = false) : at1 x0 i_1_3 i_1_4 i_1_5 (.int .u8 i_1_4) [] := by
  refine Ends.run θok mixed (n := 7) (hs := [.b false])
    (todo' := [.code (nav [1, 1, 1, 1, 1, 1] body)])
    (T' := [none, none, some (.int .u8 i_1_4), some (.int .i64 i_1_3), some (.int .u8 i_1_4), some (.int .i64 i_1_5), none, none, none, none, none, none, some (.int .i64 i_1_5), some (.int .i64 i_1_3), some (.bool (decide ((i_1_5 : Int) < i_1_3))), none, none, none, none, some (.int .u8 i_1_4)])
    (H' := [])
    (C := (True ∧ (True ∧ ((True ∧ (True ∧ (True ∧ (True ∧ (True ∧ (True ∧ True)))))) ∧ (((decide ((i_1_5 : Int) < i_1_3)) = false) ∧ (True ∧ (True ∧ ((True ∧ (True ∧ (True ∧ (True ∧ True)))) ∧ True))))))))
    (by kernel_rfl) ⟨trivial, ⟨trivial, ⟨⟨trivial, ⟨trivial, ⟨trivial, ⟨trivial, ⟨trivial, ⟨trivial, trivial⟩⟩⟩⟩⟩⟩, ⟨h1, ⟨trivial, ⟨trivial, ⟨⟨trivial, ⟨trivial, ⟨trivial, ⟨trivial, trivial⟩⟩⟩⟩, trivial⟩⟩⟩⟩⟩⟩⟩ ?_
  refine Ends.rekey (T' := [none, none, some (.int .u8 i_1_4), none, none, none, none, none, none, none, none, none, none, none, none, none, none, none, none, none]) (H' := []) [] ⟨rfl, rfl, Nat.le_of_ble_eq_true rfl⟩ rfl rfl (And.intro rfl trivial) ?_
  exact (Ends.ret θok (C := (True ∧ True)) (by kernel_rfl) ⟨trivial, trivial⟩)

end f12

/-! "lockbox/gf.Mul" -/
namespace f18

noncomputable def body : Code := (Try.f18.body).getD .skip

abbrev H0 (x0 : Int) (x1 : Int) : Heap := []

def at0 (x0 : Int) (x1 : Int)  (v : Value) (Hf : Heap) : Prop :=
  Ends Try.prog Try.f18 (H0 x0 x1) [.code (nav [] body)] [some (.int .u8 x0), some (.int .u8 x1), none, none, none, none, none, none, none, none, none, none, none, none, none, none, none, none, none] [] v Hf

def at1 (x0 : Int) (x1 : Int) (i_1_0 : Int) (i_1_1 : Int) (i_1_5 : Int) (v : Value) (Hf : Heap) : Prop :=
  Ends Try.prog Try.f18 (H0 x0 x1) [.code (nav [1, 1, 0, 0, 0] body), .inLoop (nav [1, 1, 0, 0, 0] body), .inBlock 0, .code (nav [1, 1, 1] body)] [some (.int .u8 i_1_0), some (.int .u8 i_1_1), none, none, some (.int .u8 0), some (.int .u8 i_1_5), none, none, none, none, none, none, none, none, none, none, none, none, none] [] v Hf

theorem ok {x0 : Int} {x1 : Int} {v : Value} {Hf : Heap} (h : at0 x0 x1 v Hf) : FnOk Try.prog 18 [.int .u8 x0, .int .u8 x1] [] v Hf :=
  Ends.fnOk Try.func18 (c := body) (by kernel_rfl) (by kernel_rfl) (by kernel_rfl) h

theorem s1 {x0 : Int} {x1 : Int}    {v : Value} {Hf : Heap} (hE : at1 x0 x1 x0 x1 0 v Hf) : at0 x0 x1  v Hf := by
  refine Ends.run θok mixed (n := 7) (hs := [])
    (todo' := [.code (nav [1, 1, 0, 0, 0] body), .inLoop (nav [1, 1, 0, 0, 0] body), .inBlock 0, .code (nav [1, 1, 1] body)])
    (T' := [some (.int .u8 x0), some (.int .u8 x1), none, none, some (.int .u8 0), some (.int .u8 0), none, none, none, none, none, none, none, none, none, none, none, none, none])
    (H' := [])
    (C := (True ∧ ((True ∧ (True ∧ True)) ∧ (True ∧ ((True ∧ (True ∧ True)) ∧ (True ∧ (True ∧ (True ∧ True))))))))
    (by kernel_rfl) ⟨trivial, ⟨⟨trivial, ⟨trivial, trivial⟩⟩, ⟨trivial, ⟨⟨trivial, ⟨trivial, trivial⟩⟩, ⟨trivial, ⟨trivial, ⟨trivial, trivial⟩⟩⟩⟩⟩⟩⟩ ?_
  refine Ends.rekey (T' := [some (.int .u8 x0), some (.int .u8 x1), none, none, some (.int .u8 0), some (.int .u8 0), none, none, none, none, none, none, none, none, none, none, none, none, none]) (H' := []) [] ⟨rfl, rfl, Nat.le_of_ble_eq_true rfl⟩ rfl rfl (And.intro rfl (And.intro rfl (And.intro rfl (And.intro rfl trivial)))) ?_
  exact hE

theorem s2 {x0 : Int} {x1 : Int} {i_1_0 : Int} {i_1_1 : Int} {i_1_5 : Int} {r1 : Int} (h1 : (!decide ((i_1_1 : Int) = 0)) = true) (h2 : (decide ((Go.bits .and .u8 i_1_1 1 : Int) = 1)) = true) (h3 : Pure Try.prog 25 [.int .u8 i_1_0] (.int .u8 r1)) {v : Value} {Hf : Heap} (hE : at1 x0 x1 r1 (i_1_1 / 2 ^ 1) (Go.bits .xor .u8 i_1_5 i_1_0) v Hf) : at1 x0 x1 i_1_0 i_1_1 i_1_5 v Hf := by
  refine Ends.run θok mixed (n := 16) (hs := [.b true, .b true, .call (.int .u8 r1)])
    (todo' := [.code (nav [1, 1, 0, 0, 0] body), .inLoop (nav [1, 1, 0, 0, 0] body), .inBlock 0, .code (nav [1, 1, 1] body)])
    (T' := [some (.int .u8 r1), some (.int .u8 (i_1_1 / 2 ^ 1)), none, none, some (.int .u8 0), some (.int .u8 (Go.bits .xor .u8 i_1_5 i_1_0)), some (.int .u8 i_1_1), some (.bool (!decide ((i_1_1 : Int) = 0))), some (.int .u8 i_1_1), some (.int .u8 (i_1_1 / 2 ^ 1)), some (.int .u8 i_1_1), some (.int .u8 (Go.bits .and .u8 i_1_1 1)), some (.bool (decide ((Go.bits .and .u8 i_1_1 1 : Int) = 1))), some (.int .u8 i_1_5), some (.int .u8 i_1_0), some (.int .u8 (Go.bits .xor .u8 i_1_5 i_1_0)), some (.int .u8 i_1_0), some (.int .u8 r1), none])
    (H' := [])
    (C := (True ∧ (True ∧ ((True ∧ (True ∧ (True ∧ (True ∧ True)))) ∧ (((!decide ((i_1_1 : Int) = 0)) = true) ∧ (True ∧ (True ∧ (True ∧ (True ∧ (True ∧ ((True ∧ (True ∧ (True ∧ (True ∧ (True ∧ (True ∧ True)))))) ∧ (((decide ((Go.bits .and .u8 i_1_1 1 : Int) = 1)) = true) ∧ ((True ∧ (True ∧ (True ∧ (True ∧ (True ∧ (True ∧ (True ∧ (True ∧ True)))))))) ∧ ((True ∧ (True ∧ (True ∧ ((FlatL [.int .u8 i_1_0] ∧ Pure Try.prog 25 [.int .u8 i_1_0] (.int .u8 r1)) ∧ (True ∧ (True ∧ True)))))) ∧ (True ∧ ((True ∧ (True ∧ (True ∧ (((0 : Int) ≤ 1 ∧ (1 : Int) ≤ (IntKind.bits .u8 : Nat)) ∧ (True ∧ (True ∧ True)))))) ∧ (True ∧ True)))))))))))))))))
    (by kernel_rfl) ⟨trivial, ⟨trivial, ⟨⟨trivial, ⟨trivial, ⟨trivial, ⟨trivial, trivial⟩⟩⟩⟩, ⟨h1, ⟨trivial, ⟨trivial, ⟨trivial, ⟨trivial, ⟨trivial, ⟨⟨trivial, ⟨trivial, ⟨trivial, ⟨trivial, ⟨trivial, ⟨trivial, trivial⟩⟩⟩⟩⟩⟩, ⟨h2, ⟨⟨trivial, ⟨trivial, ⟨trivial, ⟨trivial, ⟨trivial, ⟨trivial, ⟨trivial, ⟨trivial, trivial⟩⟩⟩⟩⟩⟩⟩⟩, ⟨⟨trivial, ⟨trivial, ⟨trivial, ⟨⟨by simp [FlatL, Flat, Flat2, Flat1, Row.cells], h3⟩, ⟨trivial, ⟨trivial, trivial⟩⟩⟩⟩⟩⟩, ⟨trivial, ⟨⟨trivial, ⟨trivial, ⟨trivial, ⟨(by decide), ⟨trivial, ⟨trivial, trivial⟩⟩⟩⟩⟩⟩, ⟨trivial, trivial⟩⟩⟩⟩⟩⟩⟩⟩⟩⟩⟩⟩⟩⟩⟩⟩ ?_
  refine Ends.rekey (T' := [some (.int .u8 r1), some (.int .u8 (i_1_1 / 2 ^ 1)), none, none, some (.int .u8 0), some (.int .u8 (Go.bits .xor .u8 i_1_5 i_1_0)), none, none, none, none, none, none, none, none, none, none, none, none, none]) (H' := []) [] ⟨rfl, rfl, Nat.le_of_ble_eq_true rfl⟩ rfl rfl (And.intro rfl (And.intro rfl (And.intro rfl (And.intro rfl trivial)))) ?_
  exact hE

theorem s3 {x0 : Int} {x1 : Int} {i_1_0 : Int} {i_1_1 : Int} {i_1_5 : Int}  (h1 : (!decide ((i_1_1 : Int) = 0)) = false) : at1 x0 x1 i_1_0 i_1_1 i_1_5 (.int .u8 i_1_5) [] := by
  refine Ends.run θok mixed (n := 7) (hs := [.b false])
    (todo' := [.code (nav [1, 1, 1, 1] body)])
    (T' := [some (.int .u8 i_1_0), some (.int .u8 i_1_1), none, none, some (.int .u8 i_1_5), some (.int .u8 i_1_5), some (.int .u8 i_1_1), some (.bool (!decide ((i_1_1 : Int) = 0))), none, none, none, none, none, none, none, none, none, none, some (.int .u8 i_1_5)])
    (H' := [])
    (C := (True ∧ (True ∧ ((True ∧ (True ∧ (True ∧ (True ∧ True)))) ∧ (((!decide ((i_1_1 : Int) = 0)) = false) ∧ (True ∧ (True ∧ ((True ∧ (True ∧ (True ∧ (True ∧ True)))) ∧ True))))))))
    (by kernel_rfl) ⟨trivial, ⟨trivial, ⟨⟨trivial, ⟨trivial, ⟨trivial, ⟨trivial, trivial⟩⟩⟩⟩, ⟨h1, ⟨trivial, ⟨trivial, ⟨⟨trivial, ⟨trivial, ⟨trivial, ⟨trivial, trivial⟩⟩⟩⟩, trivial⟩⟩⟩⟩⟩⟩⟩ ?_
  refine Ends.rekey (T' := [none, none, none, none, some (.int .u8 i_1_5), none, none, none, none, none, none, none, none, none, none, none, none, none, none]) (H' := []) [] ⟨rfl, rfl, Nat.le_of_ble_eq_true rfl⟩ rfl rfl (And.intro rfl trivial) ?_
  exact (Ends.ret θok (C := (True ∧ True)) (by kernel_rfl) ⟨trivial, trivial⟩)

theorem s4 {x0 : Int} {x1 : Int} {i_1_0 : Int} {i_1_1 : Int} {i_1_5 : Int} {r1 : Int} (h1 : (!decide ((i_1_1 : Int) = 0)) = true) (h2 : (decide ((Go.bits .and .u8 i_1_1 1 : Int) = 1)) = false) (h3 : Pure Try.prog 25 [.int .u8 i_1_0] (.int .u8 r1)) {v : Value} {Hf : Heap} (hE : at1 x0 x1 r1 (i_1_1 / 2 ^ 1) i_1_5 v Hf) : at1 x0 x1 i_1_0 i_1_1 i_1_5 v Hf := by
  refine Ends.run θok mixed (n := 16) (hs := [.b true, .b false, .call (.int .u8 r1)])
    (todo' := [.code (nav [1, 1, 0, 0, 0] body), .inLoop (nav [1, 1, 0, 0, 0] body), .inBlock 0, .code (nav [1, 1, 1] body)])
    (T' := [some (.int .u8 r1), some (.int .u8 (i_1_1 / 2 ^ 1)), none, none, some (.int .u8 0), some (.int .u8 i_1_5), some (.int .u8 i_1_1), some (.bool (!decide ((i_1_1 : Int) = 0))), some (.int .u8 i_1_1), some (.int .u8 (i_1_1 / 2 ^ 1)), some (.int .u8 i_1_1), some (.int .u8 (Go.bits .and .u8 i_1_1 1)), some (.bool (decide ((Go.bits .and .u8 i_1_1 1 : Int) = 1))), none, none, none, some (.int .u8 i_1_0), some (.int .u8 r1), none])
    (H' := [])
    (C := (True ∧ (True ∧ ((True ∧ (True ∧ (True ∧ (True ∧ True)))) ∧ (((!decide ((i_1_1 : Int) = 0)) = true) ∧ (True ∧ (True ∧ (True ∧ (True ∧ (True ∧ ((True ∧ (True ∧ (True ∧ (True ∧ (True ∧ (True ∧ True)))))) ∧ (((decide ((Go.bits .and .u8 i_1_1 1 : Int) = 1)) = false) ∧ (True ∧ ((True ∧ (True ∧ (True ∧ ((FlatL [.int .u8 i_1_0] ∧ Pure Try.prog 25 [.int .u8 i_1_0] (.int .u8 r1)) ∧ (True ∧ (True ∧ True)))))) ∧ (True ∧ ((True ∧ (True ∧ (True ∧ (((0 : Int) ≤ 1 ∧ (1 : Int) ≤ (IntKind.bits .u8 : Nat)) ∧ (True ∧ (True ∧ True)))))) ∧ (True ∧ True)))))))))))))))))
    (by kernel_rfl) ⟨trivial, ⟨trivial, ⟨⟨trivial, ⟨trivial, ⟨trivial, ⟨trivial, trivial⟩⟩⟩⟩, ⟨h1, ⟨trivial, ⟨trivial, ⟨trivial, ⟨trivial, ⟨trivial, ⟨⟨trivial, ⟨trivial, ⟨trivial, ⟨trivial, ⟨trivial, ⟨trivial, trivial⟩⟩⟩⟩⟩⟩, ⟨h2, ⟨trivial, ⟨⟨trivial, ⟨trivial, ⟨trivial, ⟨⟨by simp [FlatL, Flat, Flat2, Flat1, Row.cells], h3⟩, ⟨trivial, ⟨trivial, trivial⟩⟩⟩⟩⟩⟩, ⟨trivial, ⟨⟨trivial, ⟨trivial, ⟨trivial, ⟨(by decide), ⟨trivial, ⟨trivial, trivial⟩⟩⟩⟩⟩⟩, ⟨trivial, trivial⟩⟩⟩⟩⟩⟩⟩⟩⟩⟩⟩⟩⟩⟩⟩⟩ ?_
  refine Ends.rekey (T' := [some (.int .u8 r1), some (.int .u8 (i_1_1 / 2 ^ 1)), none, none, some (.int .u8 0), some (.int .u8 i_1_5), none, none, none, none, none, none, none, none, none, none, none, none, none]) (H' := []) [] ⟨rfl, rfl, Nat.le_of_ble_eq_true rfl⟩ rfl rfl (And.intro rfl (And.intro rfl (And.intro rfl (And.intro rfl trivial)))) ?_
  exact hE

end f18

/-! "lockbox/gf.raise" -/
namespace f27

noncomputable def body : Code := (Try.f27.body).getD .skip

abbrev H0 (x0 : Int) (x1 : Int) : Heap := []

def at0 (x0 : Int) (x1 : Int)  (v : Value) (Hf : Heap) : Prop :=
  Ends Try.prog Try.f27 (H0 x0 x1) [.code (nav [] body)] [some (.int .u8 x0), some (.int .i64 x1), none, none, none, none, none, none, none, none, none, none, none, none, none, none, none, none, none, none] [] v Hf

def at1 (x0 : Int) (x1 : Int) (i_1_0 : Int) (i_1_1 : Int) (i_1_5 : Int) (v : Value) (Hf : Heap) : Prop :=
  Ends Try.prog Try.f27 (H0 x0 x1) [.code (nav [1, 1, 0, 0, 0] body), .inLoop (nav [1, 1, 0, 0, 0] body), .inBlock 0, .code (nav [1, 1, 1] body)] [some (.int .u8 i_1_0), some (.int .i64 i_1_1), none, none, some (.int .u8 0), some (.int .u8 i_1_5), none, none, none, none, none, none, none, none, none, none, none, none, none, none] [] v Hf

theorem ok {x0 : Int} {x1 : Int} {v : Value} {Hf : Heap} (h : at0 x0 x1 v Hf) : FnOk Try.prog 27 [.int .u8 x0, .int .i64 x1] [] v Hf :=
  Ends.fnOk Try.func27 (c := body) (by kernel_rfl) (by kernel_rfl) (by kernel_rfl) h

theorem s1 {x0 : Int} {x1 : Int}    {v : Value} {Hf : Heap} (hE : at1 x0 x1 x0 x1 1 v Hf) : at0 x0 x1  v Hf := by
  refine Ends.run θok mixed (n := 7) (hs := [])
    (todo' := [.code (nav [1, 1, 0, 0, 0] body), .inLoop (nav [1, 1, 0, 0, 0] body), .inBlock 0, .code (nav [1, 1, 1] body)])
    (T' := [some (.int .u8 x0), some (.int .i64 x1), none, none, some (.int .u8 0), some (.int .u8 1), none, none, none, none, none, none, none, none, none, none, none, none, none, none])
    (H' := [])
    (C := (True ∧ ((True ∧ (True ∧ True)) ∧ (True ∧ ((True ∧ (True ∧ True)) ∧ (True ∧ (True ∧ (True ∧ True))))))))
    (by kernel_rfl) ⟨trivial, ⟨⟨trivial, ⟨trivial, trivial⟩⟩, ⟨trivial, ⟨⟨trivial, ⟨trivial, trivial⟩⟩, ⟨trivial, ⟨trivial, ⟨trivial, trivial⟩⟩⟩⟩⟩⟩⟩ ?_
  refine Ends.rekey (T' := [some (.int .u8 x0), some (.int .i64 x1), none, none, some (.int .u8 0), some (.int .u8 1), none, none, none, none, none, none, none, none, none, none, none, none, none, none]) (H' := []) [] ⟨rfl, rfl, Nat.le_of_ble_eq_true rfl⟩ rfl rfl (And.intro rfl (And.intro rfl (And.intro rfl (And.intro rfl trivial)))) ?_
  exact hE

theorem s2 {x0 : Int} {x1 : Int} {i_1_0 : Int} {i_1_1 : Int} {i_1_5 : Int} {r1 : Int} {r2 : Int} (h1 : (decide ((0 : Int) < i_1_1)) = true) (h2 : (0 : Int) ≤ i_1_1 ∧ (0 : Int) < 2) (h3 : (decide ((i_1_1 % 2 : Int) = 1)) = true) (h4 : Pure Try.prog 18 [.int .u8 i_1_5, .int .u8 i_1_0] (.int .u8 r1)) (h5 : Pure Try.prog 18 [.int .u8 i_1_0, .int .u8 i_1_0] (.int .u8 r2)) (h6 : (0 : Int) ≤ i_1_1 ∧ (0 : Int) < 2 ∧ (i_1_1 : Int) ≤ 9223372036854775807) {v : Value} {Hf : Heap} (hE : at1 x0 x1 r2 (i_1_1 / 2) r1 v Hf) : at1 x0 x1 i_1_0 i_1_1 i_1_5 v Hf := by
  refine Ends.run θok mixed (n := 16) (hs := [.b true, .b true, .b true, .call (.int .u8 r1), .call (.int .u8 r2), .b true])
    (todo' := [.code (nav [1, 1, 0, 0, 0] body), .inLoop (nav [1, 1, 0, 0, 0] body), .inBlock 0, .code (nav [1, 1, 1] body)])
    (T' := [some (.int .u8 r2), some (.int .i64 (i_1_1 / 2)), none, none, some (.int .u8 0), some (.int .u8 r1), some (.int .i64 i_1_1), some (.bool (decide ((0 : Int) < i_1_1))), some (.int .i64 i_1_1), some (.int .i64 (i_1_1 / 2)), some (.int .i64 i_1_1), some (.int .i64 (i_1_1 % 2)), some (.bool (decide ((i_1_1 % 2 : Int) = 1))), some (.int .u8 i_1_5), some (.int .u8 i_1_0), some (.int .u8 r1), some (.int .u8 i_1_0), some (.int .u8 i_1_0), some (.int .u8 r2), none])
    (H' := [])
    (C := (True ∧ (True ∧ ((True ∧ (True ∧ (True ∧ (True ∧ True)))) ∧ (((decide ((0 : Int) < i_1_1)) = true) ∧ (True ∧ (True ∧ (True ∧ (True ∧ (True ∧ ((True ∧ (True ∧ (True ∧ (((0 : Int) ≤ i_1_1 ∧ (0 : Int) < 2) ∧ (True ∧ (True ∧ True)))))) ∧ (((decide ((i_1_1 % 2 : Int) = 1)) = true) ∧ ((True ∧ (True ∧ (True ∧ (True ∧ (True ∧ ((FlatL [.int .u8 i_1_5, .int .u8 i_1_0] ∧ Pure Try.prog 18 [.int .u8 i_1_5, .int .u8 i_1_0] (.int .u8 r1)) ∧ (True ∧ (True ∧ True)))))))) ∧ ((True ∧ (True ∧ (True ∧ (True ∧ (True ∧ ((FlatL [.int .u8 i_1_0, .int .u8 i_1_0] ∧ Pure Try.prog 18 [.int .u8 i_1_0, .int .u8 i_1_0] (.int .u8 r2)) ∧ (True ∧ (True ∧ True)))))))) ∧ (True ∧ ((True ∧ (True ∧ (True ∧ (((0 : Int) ≤ i_1_1 ∧ (0 : Int) < 2 ∧ (i_1_1 : Int) ≤ 9223372036854775807) ∧ (True ∧ (True ∧ True)))))) ∧ (True ∧ True)))))))))))))))))
    (by kernel_rfl) ⟨trivial, ⟨trivial, ⟨⟨trivial, ⟨trivial, ⟨trivial, ⟨trivial, trivial⟩⟩⟩⟩, ⟨h1, ⟨trivial, ⟨trivial, ⟨trivial, ⟨trivial, ⟨trivial, ⟨⟨trivial, ⟨trivial, ⟨trivial, ⟨h2, ⟨trivial, ⟨trivial, trivial⟩⟩⟩⟩⟩⟩, ⟨h3, ⟨⟨trivial, ⟨trivial, ⟨trivial, ⟨trivial, ⟨trivial, ⟨⟨by simp [FlatL, Flat, Flat2, Flat1, Row.cells], h4⟩, ⟨trivial, ⟨trivial, trivial⟩⟩⟩⟩⟩⟩⟩⟩, ⟨⟨trivial, ⟨trivial, ⟨trivial, ⟨trivial, ⟨trivial, ⟨⟨by simp [FlatL, Flat, Flat2, Flat1, Row.cells], h5⟩, ⟨trivial, ⟨trivial, trivial⟩⟩⟩⟩⟩⟩⟩⟩, ⟨trivial, ⟨⟨trivial, ⟨trivial, ⟨trivial, ⟨h6, ⟨trivial, ⟨trivial, trivial⟩⟩⟩⟩⟩⟩, ⟨trivial, trivial⟩⟩⟩⟩⟩⟩⟩⟩⟩⟩⟩⟩⟩⟩⟩⟩ ?_
  refine Ends.rekey (T' := [some (.int .u8 r2), some (.int .i64 (i_1_1 / 2)), none, none, some (.int .u8 0), some (.int .u8 r1), none, none, none, none, none, none, none, none, none, none, none, none, none, none]) (H' := []) [] ⟨rfl, rfl, Nat.le_of_ble_eq_true rfl⟩ rfl rfl (And.intro rfl (And.intro rfl (And.intro rfl (And.intro rfl trivial)))) ?_
  exact hE

theorem s3 {x0 : Int} {x1 : Int} {i_1_0 : Int} {i_1_1 : Int} {i_1_5 : Int}  (h1 : (decide ((0 : Int) < i_1_1)) = false) : at1 x0 x1 i_1_0 i_1_1 i_1_5 (.int .u8 i_1_5) [] := by
  refine Ends.run θok mixed (n := 7) (hs := [.b false])
    (todo' := [.code (nav [1, 1, 1, 1] body)])
    (T' := [some (.int .u8 i_1_0), some (.int .i64 i_1_1), none, none, some (.int .u8 i_1_5), some (.int .u8 i_1_5), some (.int .i64 i_1_1), some (.bool (decide ((0 : Int) < i_1_1))), none, none, none, none, none, none, none, none, none, none, none, some (.int .u8 i_1_5)])
    (H' := [])
    (C := (True ∧ (True ∧ ((True ∧ (True ∧ (True ∧ (True ∧ True)))) ∧ (((decide ((0 : Int) < i_1_1)) = false) ∧ (True ∧ (True ∧ ((True ∧ (True ∧ (True ∧ (True ∧ True)))) ∧ True))))))))
    (by kernel_rfl) ⟨trivial, ⟨trivial, ⟨⟨trivial, ⟨trivial, ⟨trivial, ⟨trivial, trivial⟩⟩⟩⟩, ⟨h1, ⟨trivial, ⟨trivial, ⟨⟨trivial, ⟨trivial, ⟨trivial, ⟨trivial, trivial⟩⟩⟩⟩, trivial⟩⟩⟩⟩⟩⟩⟩ ?_
  refine Ends.rekey (T' := [none, none, none, none, some (.int .u8 i_1_5), none, none, none, none, none, none, none, none, none, none, none, none, none, none, none]) (H' := []) [] ⟨rfl, rfl, Nat.le_of_ble_eq_true rfl⟩ rfl rfl (And.intro rfl trivial) ?_
  exact (Ends.ret θok (C := (True ∧ True)) (by kernel_rfl) ⟨trivial, trivial⟩)

theorem s4 {x0 : Int} {x1 : Int} {i_1_0 : Int} {i_1_1 : Int} {i_1_5 : Int} {r1 : Int} (h1 : (decide ((0 : Int) < i_1_1)) = true) (h2 : (0 : Int) ≤ i_1_1 ∧ (0 : Int) < 2) (h3 : (decide ((i_1_1 % 2 : Int) = 1)) = false) (h4 : Pure Try.prog 18 [.int .u8 i_1_0, .int .u8 i_1_0] (.int .u8 r1)) (h5 : (0 : Int) ≤ i_1_1 ∧ (0 : Int) < 2 ∧ (i_1_1 : Int) ≤ 9223372036854775807) {v : Value} {Hf : Heap} (hE : at1 x0 x1 r1 (i_1_1 / 2) i_1_5 v Hf) : at1 x0 x1 i_1_0 i_1_1 i_1_5 v Hf := by
  refine Ends.run θok mixed (n := 16) (hs := [.b true, .b true, .b false, .call (.int .u8 r1), .b true])
    (todo' := [.code (nav [1, 1, 0, 0, 0] body), .inLoop (nav [1, 1, 0, 0, 0] body), .inBlock 0, .code (nav [1, 1, 1] body)])
    (T' := [some (.int .u8 r1), some (.int .i64 (i_1_1 / 2)), none, none, some (.int .u8 0), some (.int .u8 i_1_5), some (.int .i64 i_1_1), some (.bool (decide ((0 : Int) < i_1_1))), some (.int .i64 i_1_1), some (.int .i64 (i_1_1 / 2)), some (.int .i64 i_1_1), some (.int .i64 (i_1_1 % 2)), some (.bool (decide ((i_1_1 % 2 : Int) = 1))), none, none, none, some (.int .u8 i_1_0), some (.int .u8 i_1_0), some (.int .u8 r1), none])
    (H' := [])
    (C := (True ∧ (True ∧ ((True ∧ (True ∧ (True ∧ (True ∧ True)))) ∧ (((decide ((0 : Int) < i_1_1)) = true) ∧ (True ∧ (True ∧ (True ∧ (True ∧ (True ∧ ((True ∧ (True ∧ (True ∧ (((0 : Int) ≤ i_1_1 ∧ (0 : Int) < 2) ∧ (True ∧ (True ∧ True)))))) ∧ (((decide ((i_1_1 % 2 : Int) = 1)) = false) ∧ (True ∧ ((True ∧ (True ∧ (True ∧ (True ∧ (True ∧ ((FlatL [.int .u8 i_1_0, .int .u8 i_1_0] ∧ Pure Try.prog 18 [.int .u8 i_1_0, .int .u8 i_1_0] (.int .u8 r1)) ∧ (True ∧ (True ∧ True)))))))) ∧ (True ∧ ((True ∧ (True ∧ (True ∧ (((0 : Int) ≤ i_1_1 ∧ (0 : Int) < 2 ∧ (i_1_1 : Int) ≤ 9223372036854775807) ∧ (True ∧ (True ∧ True)))))) ∧ (True ∧ True)))))))))))))))))
    (by kernel_rfl) ⟨trivial, ⟨trivial, ⟨⟨trivial, ⟨trivial, ⟨trivial, ⟨trivial, trivial⟩⟩⟩⟩, ⟨h1, ⟨trivial, ⟨trivial, ⟨trivial, ⟨trivial, ⟨trivial, ⟨⟨trivial, ⟨trivial, ⟨trivial, ⟨h2, ⟨trivial, ⟨trivial, trivial⟩⟩⟩⟩⟩⟩, ⟨h3, ⟨trivial, ⟨⟨trivial, ⟨trivial, ⟨trivial, ⟨trivial, ⟨trivial, ⟨⟨by simp [FlatL, Flat, Flat2, Flat1, Row.cells], h4⟩, ⟨trivial, ⟨trivial, trivial⟩⟩⟩⟩⟩⟩⟩⟩, ⟨trivial, ⟨⟨trivial, ⟨trivial, ⟨trivial, ⟨h5, ⟨trivial, ⟨trivial, trivial⟩⟩⟩⟩⟩⟩, ⟨trivial, trivial⟩⟩⟩⟩⟩⟩⟩⟩⟩⟩⟩⟩⟩⟩⟩⟩ ?_
  refine Ends.rekey (T' := [some (.int .u8 r1), some (.int .i64 (i_1_1 / 2)), none, none, some (.int .u8 0), some (.int .u8 i_1_5), none, none, none, none, none, none, none, none, none, none, none, none, none, none]) (H' := []) [] ⟨rfl, rfl, Nat.le_of_ble_eq_true rfl⟩ rfl rfl (And.intro rfl (And.intro rfl (And.intro rfl (And.intro rfl trivial)))) ?_
  exact hE

end f27

/-! "lockbox/gf.Inv" -/
namespace f14

noncomputable def body : Code := (Try.f14.body).getD .skip

abbrev H0 (x0 : Int) : Heap := []

def at0 (x0 : Int)  (v : Value) (Hf : Heap) : Prop :=
  Ends Try.prog Try.f14 (H0 x0) [.code (nav [] body)] [some (.int .u8 x0), none, none, none, none, none, none, none] [] v Hf

theorem ok {x0 : Int} {v : Value} {Hf : Heap} (h : at0 x0 v Hf) : FnOk Try.prog 14 [.int .u8 x0] [] v Hf :=
  Ends.fnOk Try.func14 (c := body) (by kernel_rfl) (by kernel_rfl) (by kernel_rfl) h

theorem s1 {x0 : Int}   (h1 : (decide ((x0 : Int) = 0)) = true) : at0 x0  (.tuple #[.int .u8 0, .int .i64 1]) [] := by
  refine Ends.run θok mixed (n := 8) (hs := [.b true])
    (todo' := [.code (nav [1, 0, 1, 0, 1] body), .code (nav [1, 1] body)])
    (T' := [some (.int .u8 x0), none, some (.int .u8 0), some (.int .i64 1), some (.int .u8 x0), some (.bool (decide ((x0 : Int) = 0))), none, none])
    (H' := [])
    (C := (True ∧ ((True ∧ (True ∧ (True ∧ (True ∧ True)))) ∧ (True ∧ (True ∧ ((True ∧ (True ∧ (True ∧ (True ∧ True)))) ∧ (((decide ((x0 : Int) = 0)) = true) ∧ (True ∧ ((True ∧ (True ∧ (True ∧ (True ∧ True)))) ∧ True)))))))))
    (by kernel_rfl) ⟨trivial, ⟨⟨trivial, ⟨trivial, ⟨trivial, ⟨trivial, trivial⟩⟩⟩⟩, ⟨trivial, ⟨trivial, ⟨⟨trivial, ⟨trivial, ⟨trivial, ⟨trivial, trivial⟩⟩⟩⟩, ⟨h1, ⟨trivial, ⟨⟨trivial, ⟨trivial, ⟨trivial, ⟨trivial, trivial⟩⟩⟩⟩, trivial⟩⟩⟩⟩⟩⟩⟩⟩ ?_
  refine Ends.rekey (T' := [none, none, some (.int .u8 0), some (.int .i64 1), none, none, none, none]) (H' := []) [] ⟨rfl, rfl, Nat.le_of_ble_eq_true rfl⟩ rfl rfl (And.intro rfl (And.intro rfl trivial)) ?_
  exact (Ends.ret θok (C := (True ∧ (True ∧ True))) (by kernel_rfl) ⟨trivial, ⟨trivial, trivial⟩⟩)

theorem s2 {x0 : Int}  {r1 : Int} (h1 : (decide ((x0 : Int) = 0)) = false) (h2 : Pure Try.prog 27 [.int .u8 x0, .int .i64 254] (.int .u8 r1)) : at0 x0  (.tuple #[.int .u8 r1, .int .i64 0]) [] := by
  refine Ends.run θok mixed (n := 9) (hs := [.b false, .call (.int .u8 r1)])
    (todo' := [.code (nav [1, 1, 1] body)])
    (T' := [some (.int .u8 x0), none, some (.int .u8 r1), some (.int .i64 0), some (.int .u8 x0), some (.bool (decide ((x0 : Int) = 0))), some (.int .u8 x0), some (.int .u8 r1)])
    (H' := [])
    (C := (True ∧ ((True ∧ (True ∧ (True ∧ (True ∧ True)))) ∧ (True ∧ (True ∧ ((True ∧ (True ∧ (True ∧ (True ∧ True)))) ∧ (((decide ((x0 : Int) = 0)) = false) ∧ (True ∧ (True ∧ ((True ∧ (True ∧ (True ∧ ((FlatL [.int .u8 x0, .int .i64 254] ∧ Pure Try.prog 27 [.int .u8 x0, .int .i64 254] (.int .u8 r1)) ∧ (True ∧ (True ∧ (True ∧ (True ∧ True)))))))) ∧ True))))))))))
    (by kernel_rfl) ⟨trivial, ⟨⟨trivial, ⟨trivial, ⟨trivial, ⟨trivial, trivial⟩⟩⟩⟩, ⟨trivial, ⟨trivial, ⟨⟨trivial, ⟨trivial, ⟨trivial, ⟨trivial, trivial⟩⟩⟩⟩, ⟨h1, ⟨trivial, ⟨trivial, ⟨⟨trivial, ⟨trivial, ⟨trivial, ⟨⟨by simp [FlatL, Flat, Flat2, Flat1, Row.cells], h2⟩, ⟨trivial, ⟨trivial, ⟨trivial, ⟨trivial, trivial⟩⟩⟩⟩⟩⟩⟩⟩, trivial⟩⟩⟩⟩⟩⟩⟩⟩⟩ ?_
  refine Ends.rekey (T' := [none, none, some (.int .u8 r1), some (.int .i64 0), none, none, none, none]) (H' := []) [] ⟨rfl, rfl, Nat.le_of_ble_eq_true rfl⟩ rfl rfl (And.intro rfl (And.intro rfl trivial)) ?_
  exact (Ends.ret θok (C := (True ∧ (True ∧ True))) (by kernel_rfl) ⟨trivial, ⟨trivial, trivial⟩⟩)

end f14

/-! "lockbox/lockboxlaw07.awake" -/
namespace f13

noncomputable def body : Code := (Try.f13.body).getD .skip

abbrev H0  : Heap := []

def at0   (v : Value) (Hf : Heap) : Prop :=
  Ends Try.prog Try.f13 (H0 ) [.code (nav [] body)] [none, none, none, none, none, none, none, none, none, none, none, none, none, none, none, none, none, none, none, none, none, none, none, none, none, none, none, none, none, none, none, none, none, none, none] [] v Hf

theorem ok  {v : Value} {Hf : Heap} (h : at0  v Hf) : FnOk Try.prog 13 [] [] v Hf :=
  Ends.fnOk Try.func13 (c := body) (by kernel_rfl) (by kernel_rfl) (by kernel_rfl) h

theorem s1   {r1 : Int} {r2 : Int} {r3 : Int} {r4 : Int} {r5 : Int} {r6 : Int} (h1 : Pure Try.prog 14 [.int .u8 83] (.tuple #[.int .u8 r1, .int .i64 r2])) (h2 : Pure Try.prog 9 [.int .u8 3] (.tuple #[.int .i64 r3, .int .i64 r4])) (h3 : (decide ((r2 : Int) = 0)) = true) (h4 : (decide ((r4 : Int) = 0)) = true) (h5 : (decide ((r1 : Int) = 202)) = true) (h6 : (decide ((r3 : Int) = 1)) = true) (h7 : Pure Try.prog 18 [.int .u8 87, .int .u8 131] (.int .u8 r5)) (h8 : (decide ((r5 : Int) = 193)) = true) (h9 : Pure Try.prog 11 [.int .i64 1] (.int .u8 r6)) : at0   (.bool (decide ((r6 : Int) = 3))) [] := by
  refine Ends.run θok mixed (n := 8) (hs := [.call (.tuple #[.int .u8 r1, .int .i64 r2]), .call (.tuple #[.int .i64 r3, .int .i64 r4]), .b true, .b true, .b true, .b true, .b true, .b true, .b true, .b true, .b true, .b true, .call (.int .u8 r5), .b true, .b true, .b true, .call (.int .u8 r6), .b true, .b true])
    (todo' := [.code (nav [1, 1, 1, 1] body)])
    (T' := [some (.bool (decide ((r6 : Int) = 3))), some (.int .u8 r1), some (.int .i64 r2), some (.int .i64 r3), some (.int .i64 r4), some (.tuple #[.int .u8 r1, .int .i64 r2]), some (.tuple #[.int .u8 r1, .int .i64 r2]), some (.int .u8 r1), some (.int .i64 r2), some (.tuple #[.int .i64 r3, .int .i64 r4]), some (.tuple #[.int .i64 r3, .int .i64 r4]), some (.int .i64 r3), some (.int .i64 r4), some (.int .i64 r2), some (.bool (decide ((r2 : Int) = 0))), some (.bool (decide ((r2 : Int) = 0))), some (.int .i64 r4), some (.bool (decide ((r4 : Int) = 0))), some (.bool (decide ((r4 : Int) = 0))), some (.bool (decide ((r4 : Int) = 0))), some (.int .u8 r1), some (.bool (decide ((r1 : Int) = 202))), some (.bool (decide ((r1 : Int) = 202))), some (.bool (decide ((r1 : Int) = 202))), some (.int .i64 r3), some (.bool (decide ((r3 : Int) = 1))), some (.bool (decide ((r3 : Int) = 1))), some (.bool (decide ((r3 : Int) = 1))), some (.int .u8 r5), some (.bool (decide ((r5 : Int) = 193))), some (.bool (decide ((r5 : Int) = 193))), some (.bool (decide ((r5 : Int) = 193))), some (.int .u8 r6), some (.bool (decide ((r6 : Int) = 3))), some (.bool (decide ((r6 : Int) = 3)))])
    (H' := [])
    (C := (True ∧ ((True ∧ (True ∧ True)) ∧ (True ∧ ((True ∧ ((FlatL [.int .u8 83] ∧ Pure Try.prog 14 [.int .u8 83] (.tuple #[.int .u8 r1, .int .i64 r2])) ∧ (True ∧ (True ∧ (True ∧ (True ∧ (True ∧ (True ∧ (True ∧ (True ∧ (True ∧ (True ∧ True)))))))))))) ∧ (True ∧ ((True ∧ ((FlatL [.int .u8 3] ∧ Pure Try.prog 9 [.int .u8 3] (.tuple #[.int .i64 r3, .int .i64 r4])) ∧ (True ∧ (True ∧ (True ∧ (True ∧ (True ∧ (True ∧ (True ∧ (True ∧ (True ∧ (True ∧ True)))))))))))) ∧ (True ∧ ((True ∧ (True ∧ (True ∧ (True ∧ (True ∧ (True ∧ (((decide ((r2 : Int) = 0)) = true) ∧ (True ∧ (((decide ((r2 : Int) = 0)) = true) ∧ (True ∧ (True ∧ (((decide ((r2 : Int) = 0)) = true) ∧ (True ∧ (True ∧ (((decide ((r4 : Int) = 0)) = true) ∧ (True ∧ (((decide ((r4 : Int) = 0)) = true) ∧ (True ∧ (True ∧ (((decide ((r4 : Int) = 0)) = true) ∧ (True ∧ (True ∧ (((decide ((r1 : Int) = 202)) = true) ∧ (True ∧ (((decide ((r1 : Int) = 202)) = true) ∧ (True ∧ (True ∧ (((decide ((r1 : Int) = 202)) = true) ∧ (True ∧ (True ∧ (((decide ((r3 : Int) = 1)) = true) ∧ ((FlatL [.int .u8 87, .int .u8 131] ∧ Pure Try.prog 18 [.int .u8 87, .int .u8 131] (.int .u8 r5)) ∧ (((decide ((r3 : Int) = 1)) = true) ∧ (True ∧ (True ∧ (((decide ((r3 : Int) = 1)) = true) ∧ (True ∧ (True ∧ (((decide ((r5 : Int) = 193)) = true) ∧ ((FlatL [.int .i64 1] ∧ Pure Try.prog 11 [.int .i64 1] (.int .u8 r6)) ∧ (((decide ((r5 : Int) = 193)) = true) ∧ (True ∧ (True ∧ (((decide ((r5 : Int) = 193)) = true) ∧ (True ∧ (True ∧ True)))))))))))))))))))))))))))))))))))))))))))))) ∧ True)))))))))
    (by kernel_rfl) ⟨trivial, ⟨⟨trivial, ⟨trivial, trivial⟩⟩, ⟨trivial, ⟨⟨trivial, ⟨⟨by simp [FlatL, Flat, Flat2, Flat1, Row.cells], h1⟩, ⟨trivial, ⟨trivial, ⟨trivial, ⟨trivial, ⟨trivial, ⟨trivial, ⟨trivial, ⟨trivial, ⟨trivial, ⟨trivial, trivial⟩⟩⟩⟩⟩⟩⟩⟩⟩⟩⟩⟩, ⟨trivial, ⟨⟨trivial, ⟨⟨by simp [FlatL, Flat, Flat2, Flat1, Row.cells], h2⟩, ⟨trivial, ⟨trivial, ⟨trivial, ⟨trivial, ⟨trivial, ⟨trivial, ⟨trivial, ⟨trivial, ⟨trivial, ⟨trivial, trivial⟩⟩⟩⟩⟩⟩⟩⟩⟩⟩⟩⟩, ⟨trivial, ⟨⟨trivial, ⟨trivial, ⟨trivial, ⟨trivial, ⟨trivial, ⟨trivial, ⟨h3, ⟨trivial, ⟨h3, ⟨trivial, ⟨trivial, ⟨h3, ⟨trivial, ⟨trivial, ⟨h4, ⟨trivial, ⟨h4, ⟨trivial, ⟨trivial, ⟨h4, ⟨trivial, ⟨trivial, ⟨h5, ⟨trivial, ⟨h5, ⟨trivial, ⟨trivial, ⟨h5, ⟨trivial, ⟨trivial, ⟨h6, ⟨⟨by simp [FlatL, Flat, Flat2, Flat1, Row.cells], h7⟩, ⟨h6, ⟨trivial, ⟨trivial, ⟨h6, ⟨trivial, ⟨trivial, ⟨h8, ⟨⟨by simp [FlatL, Flat, Flat2, Flat1, Row.cells], h9⟩, ⟨h8, ⟨trivial, ⟨trivial, ⟨h8, ⟨trivial, ⟨trivial, trivial⟩⟩⟩⟩⟩⟩⟩⟩⟩⟩⟩⟩⟩⟩⟩⟩⟩⟩⟩⟩⟩⟩⟩⟩⟩⟩⟩⟩⟩⟩⟩⟩⟩⟩⟩⟩⟩⟩⟩⟩⟩⟩⟩⟩⟩⟩, trivial⟩⟩⟩⟩⟩⟩⟩⟩ ?_
  refine Ends.rekey (T' := [some (.bool (decide ((r6 : Int) = 3))), none, none, none, none, none, none, none, none, none, none, none, none, none, none, none, none, none, none, none, none, none, none, none, none, none, none, none, none, none, none, none, none, none, none]) (H' := []) [] ⟨rfl, rfl, Nat.le_of_ble_eq_true rfl⟩ rfl rfl (And.intro rfl trivial) ?_
  exact (Ends.ret θok (C := (True ∧ True)) (by kernel_rfl) ⟨trivial, trivial⟩)






end f13

/-! "lockbox/lockboxlaw07.GfLogs" -/
namespace f3

noncomputable def body : Code := (Try.f3.body).getD .skip

abbrev H0 (x0 : Int) (x1 : Int) : Heap := []

def at0 (x0 : Int) (x1 : Int)  (v : Value) (Hf : Heap) : Prop :=
  Ends Try.prog Try.f3 (H0 x0 x1) [.code (nav [] body)] [some (.int .u8 x0), some (.int .i64 x1), none, none, none, none, none, none, none, none, none, none, none, none, none, none, none, none, none, none, none, none, none, none, none, none, none, none, none, none, none, none, none, none, none, none, none, none, none, none, none, none, none, none, none, none, none, none, none, none, none, none, none, none, none, none, none, none, none, none, none, none, none, none, none, none, none, none, none, none] [] v Hf

theorem ok {x0 : Int} {x1 : Int} {v : Value} {Hf : Heap} (h : at0 x0 x1 v Hf) : FnOk Try.prog 3 [.int .u8 x0, .int .i64 x1] [] v Hf :=
  Ends.fnOk Try.func3 (c := body) (by kernel_rfl) (by kernel_rfl) (by kernel_rfl) h





theorem s5 {x0 : Int} {x1 : Int}  {r1 : Int} {r2 : Int} {r3 : Int} {r4 : Int} {r5 : Int} {r6 : Int} {r7 : Int} {r8 : Int} {r9 : Int} {r10 : Int} {b11 : Bool} (h1 : Pure Try.prog 9 [.int .u8 x0] (.tuple #[.int .i64 r1, .int .i64 r2])) (h2 : Pure Try.prog 10 [.int .u8 x0] (.tuple #[.int .i64 r3, .int .i64 r4])) (h3 : (!decide ((r1 : Int) = r3)) = false) (h4 : (!decide ((r2 : Int) = r4)) = false) (h5 : Pure Try.prog 11 [.int .i64 x1] (.int .u8 r5)) (h6 : Pure Try.prog 12 [.int .i64 x1] (.int .u8 r6)) (h7 : (!decide ((r5 : Int) = r6)) = false) (h8 : Pure Try.prog 11 [.int .i64 x1] (.int .u8 r7)) (h9 : (decide ((r7 : Int) = 0)) = false) (h10 : Pure Try.prog 11 [.int .i64 x1] (.int .u8 r8)) (h11 : Pure Try.prog 9 [.int .u8 r8] (.tuple #[.int .i64 r9, .int .i64 r10])) (h12 : Pure Try.prog 13 [] (.bool b11)) (h13 : b11 = true) (h14 : (!decide ((r2 : Int) = 0)) = true) (h15 : (decide ((r10 : Int) = 0)) = true) (h16 : (-9223372036854775808 : Int) ≤ (Int.tmod x1 255) + 255 ∧ ((Int.tmod x1 255) + 255 : Int) ≤ 9223372036854775807) : at0 x0 x1  (.bool (decide ((r9 : Int) = Int.tmod ((Int.tmod x1 255) + 255) 255))) [] := by
  refine Ends.run θok mixed (n := 15) (hs := [.call (.tuple #[.int .i64 r1, .int .i64 r2]), .call (.tuple #[.int .i64 r3, .int .i64 r4]), .b false, .b false, .b false, .b false, .b false, .b false, .call (.int .u8 r5), .b false, .b false, .call (.int .u8 r6), .b false, .b false, .b false, .b false, .call (.int .u8 r7), .b false, .b false, .b false, .call (.int .u8 r8), .call (.tuple #[.int .i64 r9, .int .i64 r10]), .call (.bool b11), .b true, .b true, .b true, .b true, .b true, .b true, .b true, .b true, .b true, .b true, .b true, .b true, .b true, .b true, .b true, .b true, .b false, .b true, .b true, .b false, .b true, .b true])
    (todo' := [.code (nav [1, 1, 1, 1, 1, 1] body)])
    (T' := [some (.int .u8 x0), some (.int .i64 x1), none, none, some (.bool (decide ((r9 : Int) = Int.tmod ((Int.tmod x1 255) + 255) 255))), some (.int .i64 r1), some (.int .i64 r2), some (.int .i64 r3), some (.int .i64 r4), some (.int .i64 r9), some (.int .i64 r10), some (.tuple #[.int .i64 r1, .int .i64 r2]), some (.int .u8 x0), some (.tuple #[.int .i64 r1, .int .i64 r2]), some (.int .i64 r1), some (.int .i64 r2), some (.tuple #[.int .i64 r3, .int .i64 r4]), some (.int .u8 x0), some (.tuple #[.int .i64 r3, .int .i64 r4]), some (.int .i64 r3), some (.int .i64 r4), some (.int .i64 r1), some (.int .i64 r3), some (.bool (!decide ((r1 : Int) = r3))), some (.bool (!decide ((r1 : Int) = r3))), some (.int .i64 r2), some (.int .i64 r4), some (.bool (!decide ((r2 : Int) = r4))), some (.bool (!decide ((r2 : Int) = r4))), some (.bool (!decide ((r2 : Int) = r4))), some (.int .i64 x1), some (.int .u8 r5), some (.int .i64 x1), some (.int .u8 r6), some (.bool (!decide ((r5 : Int) = r6))), some (.bool (!decide ((r5 : Int) = r6))), some (.bool (!decide ((r5 : Int) = r6))), some (.int .i64 x1), some (.int .u8 r7), some (.bool (decide ((r7 : Int) = 0))), some (.bool (decide ((r7 : Int) = 0))), some (.tuple #[.int .i64 r9, .int .i64 r10]), some (.int .i64 x1), some (.int .u8 r8), some (.tuple #[.int .i64 r9, .int .i64 r10]), some (.int .i64 r9), some (.int .i64 r10), some (.bool b11), some (.bool b11), some (.int .i64 r2), some (.bool (!decide ((r2 : Int) = 0))), some (.bool (!decide ((r2 : Int) = 0))), some (undef), some (undef), some (undef), some (undef), some (.bool true), some (.bool true), some (.bool true), some (.int .i64 r10), some (.bool (decide ((r10 : Int) = 0))), some (.bool (decide ((r10 : Int) = 0))), some (.bool (decide ((r10 : Int) = 0))), some (.int .i64 r9), some (.int .i64 x1), some (.int .i64 (Int.tmod x1 255)), some (.int .i64 ((Int.tmod x1 255) + 255)), some (.int .i64 (Int.tmod ((Int.tmod x1 255) + 255) 255)), some (.bool (decide ((r9 : Int) = Int.tmod ((Int.tmod x1 255) + 255) 255))), some (.bool (decide ((r9 : Int) = Int.tmod ((Int.tmod x1 255) + 255) 255)))])
    (H' := [])
    (C := (True ∧ ((True ∧ (True ∧ True)) ∧ (True ∧ ((True ∧ (True ∧ (True ∧ ((FlatL [.int .u8 x0] ∧ Pure Try.prog 9 [.int .u8 x0] (.tuple #[.int .i64 r1, .int .i64 r2])) ∧ (True ∧ (True ∧ (True ∧ (True ∧ (True ∧ (True ∧ (True ∧ (True ∧ (True ∧ (True ∧ True)))))))))))))) ∧ (True ∧ ((True ∧ (True ∧ (True ∧ ((FlatL [.int .u8 x0] ∧ Pure Try.prog 10 [.int .u8 x0] (.tuple #[.int .i64 r3, .int .i64 r4])) ∧ (True ∧ (True ∧ (True ∧ (True ∧ (True ∧ (True ∧ (True ∧ (True ∧ (True ∧ (True ∧ True)))))))))))))) ∧ (True ∧ (True ∧ ((True ∧ (True ∧ (True ∧ (True ∧ (True ∧ (True ∧ (True ∧ (True ∧ (((!decide ((r1 : Int) = r3)) = false) ∧ (True ∧ (((!decide ((r1 : Int) = r3)) = false) ∧ (True ∧ (((!decide ((r1 : Int) = r3)) = false) ∧ (True ∧ (True ∧ (((!decide ((r1 : Int) = r3)) = false) ∧ (True ∧ (True ∧ (((!decide ((r2 : Int) = r4)) = false) ∧ (True ∧ (((!decide ((r2 : Int) = r4)) = false) ∧ ((FlatL [.int .i64 x1] ∧ Pure Try.prog 11 [.int .i64 x1] (.int .u8 r5)) ∧ (((!decide ((r2 : Int) = r4)) = false) ∧ (True ∧ (((!decide ((r2 : Int) = r4)) = false) ∧ ((FlatL [.int .i64 x1] ∧ Pure Try.prog 12 [.int .i64 x1] (.int .u8 r6)) ∧ (((!decide ((r2 : Int) = r4)) = false) ∧ (True ∧ (True ∧ (((!decide ((r2 : Int) = r4)) = false) ∧ (True ∧ (True ∧ (((!decide ((r5 : Int) = r6)) = false) ∧ (True ∧ (((!decide ((r5 : Int) = r6)) = false) ∧ ((FlatL [.int .i64 x1] ∧ Pure Try.prog 11 [.int .i64 x1] (.int .u8 r7)) ∧ (((!decide ((r5 : Int) = r6)) = false) ∧ (True ∧ (True ∧ (((!decide ((r5 : Int) = r6)) = false) ∧ True)))))))))))))))))))))))))))))))))))))))) ∧ (((decide ((r7 : Int) = 0)) = false) ∧ (True ∧ (True ∧ ((True ∧ (True ∧ (True ∧ ((FlatL [.int .i64 x1] ∧ Pure Try.prog 11 [.int .i64 x1] (.int .u8 r8)) ∧ (True ∧ ((FlatL [.int .u8 r8] ∧ Pure Try.prog 9 [.int .u8 r8] (.tuple #[.int .i64 r9, .int .i64 r10])) ∧ (True ∧ (True ∧ (True ∧ (True ∧ (True ∧ (True ∧ (True ∧ (True ∧ (True ∧ (True ∧ True)))))))))))))))) ∧ (True ∧ ((True ∧ ((FlatL [] ∧ Pure Try.prog 13 [] (.bool b11)) ∧ (True ∧ (True ∧ ((b11 = true) ∧ (True ∧ ((b11 = true) ∧ (True ∧ ((b11 = true) ∧ (True ∧ (((!decide ((r2 : Int) = 0)) = true) ∧ (((!decide ((r2 : Int) = 0)) = true) ∧ (((!decide ((r2 : Int) = 0)) = true) ∧ (((!decide ((r2 : Int) = 0)) = true) ∧ ((b11 = true) ∧ (((!decide ((r2 : Int) = 0)) = true) ∧ (True ∧ ((b11 = true) ∧ (True ∧ (True ∧ (((true : Bool) = true) ∧ (True ∧ (((true : Bool) = true) ∧ (True ∧ (True ∧ (((true : Bool) = true) ∧ (True ∧ (True ∧ (((decide ((r10 : Int) = 0)) = true) ∧ (True ∧ (((decide ((r10 : Int) = 0)) = true) ∧ (True ∧ (((decide ((r10 : Int) = 0)) = true) ∧ (((255 : Int) ≠ 0) ∧ (((decide ((r10 : Int) = 0)) = true) ∧ (((-9223372036854775808 : Int) ≤ (Int.tmod x1 255) + 255 ∧ ((Int.tmod x1 255) + 255 : Int) ≤ 9223372036854775807) ∧ (((decide ((r10 : Int) = 0)) = true) ∧ (((255 : Int) ≠ 0) ∧ (((decide ((r10 : Int) = 0)) = true) ∧ (True ∧ (True ∧ (((decide ((r10 : Int) = 0)) = true) ∧ (True ∧ (True ∧ True)))))))))))))))))))))))))))))))))))))))))))) ∧ True))))))))))))))))
    (by kernel_rfl) ⟨trivial, ⟨⟨trivial, ⟨trivial, trivial⟩⟩, ⟨trivial, ⟨⟨trivial, ⟨trivial, ⟨trivial, ⟨⟨by simp [FlatL, Flat, Flat2, Flat1, Row.cells], h1⟩, ⟨trivial, ⟨trivial, ⟨trivial, ⟨trivial, ⟨trivial, ⟨trivial, ⟨trivial, ⟨trivial, ⟨trivial, ⟨trivial, trivial⟩⟩⟩⟩⟩⟩⟩⟩⟩⟩⟩⟩⟩⟩, ⟨trivial, ⟨⟨trivial, ⟨trivial, ⟨trivial, ⟨⟨by simp [FlatL, Flat, Flat2, Flat1, Row.cells], h2⟩, ⟨trivial, ⟨trivial, ⟨trivial, ⟨trivial, ⟨trivial, ⟨trivial, ⟨trivial, ⟨trivial, ⟨trivial, ⟨trivial, trivial⟩⟩⟩⟩⟩⟩⟩⟩⟩⟩⟩⟩⟩⟩, ⟨trivial, ⟨trivial, ⟨⟨trivial, ⟨trivial, ⟨trivial, ⟨trivial, ⟨trivial, ⟨trivial, ⟨trivial, ⟨trivial, ⟨h3, ⟨trivial, ⟨h3, ⟨trivial, ⟨h3, ⟨trivial, ⟨trivial, ⟨h3, ⟨trivial, ⟨trivial, ⟨h4, ⟨trivial, ⟨h4, ⟨⟨by simp [FlatL, Flat, Flat2, Flat1, Row.cells], h5⟩, ⟨h4, ⟨trivial, ⟨h4, ⟨⟨by simp [FlatL, Flat, Flat2, Flat1, Row.cells], h6⟩, ⟨h4, ⟨trivial, ⟨trivial, ⟨h4, ⟨trivial, ⟨trivial, ⟨h7, ⟨trivial, ⟨h7, ⟨⟨by simp [FlatL, Flat, Flat2, Flat1, Row.cells], h8⟩, ⟨h7, ⟨trivial, ⟨trivial, ⟨h7, trivial⟩⟩⟩⟩⟩⟩⟩⟩⟩⟩⟩⟩⟩⟩⟩⟩⟩⟩⟩⟩⟩⟩⟩⟩⟩⟩⟩⟩⟩⟩⟩⟩⟩⟩⟩⟩⟩⟩⟩⟩, ⟨h9, ⟨trivial, ⟨trivial, ⟨⟨trivial, ⟨trivial, ⟨trivial, ⟨⟨by simp [FlatL, Flat, Flat2, Flat1, Row.cells], h10⟩, ⟨trivial, ⟨⟨by simp [FlatL, Flat, Flat2, Flat1, Row.cells], h11⟩, ⟨trivial, ⟨trivial, ⟨trivial, ⟨trivial, ⟨trivial, ⟨trivial, ⟨trivial, ⟨trivial, ⟨trivial, ⟨trivial, trivial⟩⟩⟩⟩⟩⟩⟩⟩⟩⟩⟩⟩⟩⟩⟩⟩, ⟨trivial, ⟨⟨trivial, ⟨⟨by simp [FlatL, Flat, Flat2, Flat1, Row.cells], h12⟩, ⟨trivial, ⟨trivial, ⟨h13, ⟨trivial, ⟨h13, ⟨trivial, ⟨h13, ⟨trivial, ⟨h14, ⟨h14, ⟨h14, ⟨h14, ⟨h13, ⟨h14, ⟨trivial, ⟨h13, ⟨trivial, ⟨trivial, ⟨rfl, ⟨trivial, ⟨rfl, ⟨trivial, ⟨trivial, ⟨rfl, ⟨trivial, ⟨trivial, ⟨h15, ⟨trivial, ⟨h15, ⟨trivial, ⟨h15, ⟨(by decide), ⟨h15, ⟨h16, ⟨h15, ⟨(by decide), ⟨h15, ⟨trivial, ⟨trivial, ⟨h15, ⟨trivial, ⟨trivial, trivial⟩⟩⟩⟩⟩⟩⟩⟩⟩⟩⟩⟩⟩⟩⟩⟩⟩⟩⟩⟩⟩⟩⟩⟩⟩⟩⟩⟩⟩⟩⟩⟩⟩⟩⟩⟩⟩⟩⟩⟩⟩⟩⟩⟩, trivial⟩⟩⟩⟩⟩⟩⟩⟩⟩⟩⟩⟩⟩⟩⟩ ?_
  refine Ends.rekey (T' := [none, none, none, none, some (.bool (decide ((r9 : Int) = Int.tmod ((Int.tmod x1 255) + 255) 255))), none, none, none, none, none, none, none, none, none, none, none, none, none, none, none, none, none, none, none, none, none, none, none, none, none, none, none, none, none, none, none, none, none, none, none, none, none, none, none, none, none, none, none, none, none, none, none, none, none, none, none, none, none, none, none, none, none, none, none, none, none, none, none, none, none]) (H' := []) [] ⟨rfl, rfl, Nat.le_of_ble_eq_true rfl⟩ rfl rfl (And.intro rfl trivial) ?_
  exact (Ends.ret θok (C := (True ∧ True)) (by kernel_rfl) ⟨trivial, trivial⟩)


theorem s7 {x0 : Int} {x1 : Int}  {r1 : Int} {r2 : Int} {r3 : Int} {r4 : Int} {r5 : Int} {r6 : Int} {r7 : Int} {r8 : Int} {r9 : Int} {r10 : Int} {b11 : Bool} {r12 : Int} (h1 : Pure Try.prog 9 [.int .u8 x0] (.tuple #[.int .i64 r1, .int .i64 r2])) (h2 : Pure Try.prog 10 [.int .u8 x0] (.tuple #[.int .i64 r3, .int .i64 r4])) (h3 : (!decide ((r1 : Int) = r3)) = false) (h4 : (!decide ((r2 : Int) = r4)) = false) (h5 : Pure Try.prog 11 [.int .i64 x1] (.int .u8 r5)) (h6 : Pure Try.prog 12 [.int .i64 x1] (.int .u8 r6)) (h7 : (!decide ((r5 : Int) = r6)) = false) (h8 : Pure Try.prog 11 [.int .i64 x1] (.int .u8 r7)) (h9 : (decide ((r7 : Int) = 0)) = false) (h10 : Pure Try.prog 11 [.int .i64 x1] (.int .u8 r8)) (h11 : Pure Try.prog 9 [.int .u8 r8] (.tuple #[.int .i64 r9, .int .i64 r10])) (h12 : Pure Try.prog 13 [] (.bool b11)) (h13 : b11 = true) (h14 : (!decide ((r2 : Int) = 0)) = false) (h15 : Pure Try.prog 11 [.int .i64 r1] (.int .u8 r12)) (h16 : (decide ((r12 : Int) = x0)) = true) (h17 : (decide ((r10 : Int) = 0)) = true) (h18 : (-9223372036854775808 : Int) ≤ (Int.tmod x1 255) + 255 ∧ ((Int.tmod x1 255) + 255 : Int) ≤ 9223372036854775807) : at0 x0 x1  (.bool (decide ((r9 : Int) = Int.tmod ((Int.tmod x1 255) + 255) 255))) [] := by
  refine Ends.run θok mixed (n := 15) (hs := [.call (.tuple #[.int .i64 r1, .int .i64 r2]), .call (.tuple #[.int .i64 r3, .int .i64 r4]), .b false, .b false, .b false, .b false, .b false, .b false, .call (.int .u8 r5), .b false, .b false, .call (.int .u8 r6), .b false, .b false, .b false, .b false, .call (.int .u8 r7), .b false, .b false, .b false, .call (.int .u8 r8), .call (.tuple #[.int .i64 r9, .int .i64 r10]), .call (.bool b11), .b true, .b true, .b true, .b false, .b false, .call (.int .u8 r12), .b false, .b false, .b true, .b false, .b true, .b true, .b true, .b true, .b true, .b true, .b true, .b false, .b true, .b true, .b false, .b true, .b true])
    (todo' := [.code (nav [1, 1, 1, 1, 1, 1] body)])
    (T' := [some (.int .u8 x0), some (.int .i64 x1), none, none, some (.bool (decide ((r9 : Int) = Int.tmod ((Int.tmod x1 255) + 255) 255))), some (.int .i64 r1), some (.int .i64 r2), some (.int .i64 r3), some (.int .i64 r4), some (.int .i64 r9), some (.int .i64 r10), some (.tuple #[.int .i64 r1, .int .i64 r2]), some (.int .u8 x0), some (.tuple #[.int .i64 r1, .int .i64 r2]), some (.int .i64 r1), some (.int .i64 r2), some (.tuple #[.int .i64 r3, .int .i64 r4]), some (.int .u8 x0), some (.tuple #[.int .i64 r3, .int .i64 r4]), some (.int .i64 r3), some (.int .i64 r4), some (.int .i64 r1), some (.int .i64 r3), some (.bool (!decide ((r1 : Int) = r3))), some (.bool (!decide ((r1 : Int) = r3))), some (.int .i64 r2), some (.int .i64 r4), some (.bool (!decide ((r2 : Int) = r4))), some (.bool (!decide ((r2 : Int) = r4))), some (.bool (!decide ((r2 : Int) = r4))), some (.int .i64 x1), some (.int .u8 r5), some (.int .i64 x1), some (.int .u8 r6), some (.bool (!decide ((r5 : Int) = r6))), some (.bool (!decide ((r5 : Int) = r6))), some (.bool (!decide ((r5 : Int) = r6))), some (.int .i64 x1), some (.int .u8 r7), some (.bool (decide ((r7 : Int) = 0))), some (.bool (decide ((r7 : Int) = 0))), some (.tuple #[.int .i64 r9, .int .i64 r10]), some (.int .i64 x1), some (.int .u8 r8), some (.tuple #[.int .i64 r9, .int .i64 r10]), some (.int .i64 r9), some (.int .i64 r10), some (.bool b11), some (.bool b11), some (.int .i64 r2), some (.bool (!decide ((r2 : Int) = 0))), some (.bool (!decide ((r2 : Int) = 0))), some (.int .i64 r1), some (.int .u8 r12), some (.int .u8 x0), some (.bool (decide ((r12 : Int) = x0))), some (.bool (decide ((r12 : Int) = x0))), some (.bool (decide ((r12 : Int) = x0))), some (.bool (decide ((r12 : Int) = x0))), some (.int .i64 r10), some (.bool (decide ((r10 : Int) = 0))), some (.bool (decide ((r10 : Int) = 0))), some (.bool (decide ((r10 : Int) = 0))), some (.int .i64 r9), some (.int .i64 x1), some (.int .i64 (Int.tmod x1 255)), some (.int .i64 ((Int.tmod x1 255) + 255)), some (.int .i64 (Int.tmod ((Int.tmod x1 255) + 255) 255)), some (.bool (decide ((r9 : Int) = Int.tmod ((Int.tmod x1 255) + 255) 255))), some (.bool (decide ((r9 : Int) = Int.tmod ((Int.tmod x1 255) + 255) 255)))])
    (H' := [])
    (C := (True ∧ ((True ∧ (True ∧ True)) ∧ (True ∧ ((True ∧ (True ∧ (True ∧ ((FlatL [.int .u8 x0] ∧ Pure Try.prog 9 [.int .u8 x0] (.tuple #[.int .i64 r1, .int .i64 r2])) ∧ (True ∧ (True ∧ (True ∧ (True ∧ (True ∧ (True ∧ (True ∧ (True ∧ (True ∧ (True ∧ True)))))))))))))) ∧ (True ∧ ((True ∧ (True ∧ (True ∧ ((FlatL [.int .u8 x0] ∧ Pure Try.prog 10 [.int .u8 x0] (.tuple #[.int .i64 r3, .int .i64 r4])) ∧ (True ∧ (True ∧ (True ∧ (True ∧ (True ∧ (True ∧ (True ∧ (True ∧ (True ∧ (True ∧ True)))))))))))))) ∧ (True ∧ (True ∧ ((True ∧ (True ∧ (True ∧ (True ∧ (True ∧ (True ∧ (True ∧ (True ∧ (((!decide ((r1 : Int) = r3)) = false) ∧ (True ∧ (((!decide ((r1 : Int) = r3)) = false) ∧ (True ∧ (((!decide ((r1 : Int) = r3)) = false) ∧ (True ∧ (True ∧ (((!decide ((r1 : Int) = r3)) = false) ∧ (True ∧ (True ∧ (((!decide ((r2 : Int) = r4)) = false) ∧ (True ∧ (((!decide ((r2 : Int) = r4)) = false) ∧ ((FlatL [.int .i64 x1] ∧ Pure Try.prog 11 [.int .i64 x1] (.int .u8 r5)) ∧ (((!decide ((r2 : Int) = r4)) = false) ∧ (True ∧ (((!decide ((r2 : Int) = r4)) = false) ∧ ((FlatL [.int .i64 x1] ∧ Pure Try.prog 12 [.int .i64 x1] (.int .u8 r6)) ∧ (((!decide ((r2 : Int) = r4)) = false) ∧ (True ∧ (True ∧ (((!decide ((r2 : Int) = r4)) = false) ∧ (True ∧ (True ∧ (((!decide ((r5 : Int) = r6)) = false) ∧ (True ∧ (((!decide ((r5 : Int) = r6)) = false) ∧ ((FlatL [.int .i64 x1] ∧ Pure Try.prog 11 [.int .i64 x1] (.int .u8 r7)) ∧ (((!decide ((r5 : Int) = r6)) = false) ∧ (True ∧ (True ∧ (((!decide ((r5 : Int) = r6)) = false) ∧ True)))))))))))))))))))))))))))))))))))))))) ∧ (((decide ((r7 : Int) = 0)) = false) ∧ (True ∧ (True ∧ ((True ∧ (True ∧ (True ∧ ((FlatL [.int .i64 x1] ∧ Pure Try.prog 11 [.int .i64 x1] (.int .u8 r8)) ∧ (True ∧ ((FlatL [.int .u8 r8] ∧ Pure Try.prog 9 [.int .u8 r8] (.tuple #[.int .i64 r9, .int .i64 r10])) ∧ (True ∧ (True ∧ (True ∧ (True ∧ (True ∧ (True ∧ (True ∧ (True ∧ (True ∧ (True ∧ True)))))))))))))))) ∧ (True ∧ ((True ∧ ((FlatL [] ∧ Pure Try.prog 13 [] (.bool b11)) ∧ (True ∧ (True ∧ ((b11 = true) ∧ (True ∧ ((b11 = true) ∧ (True ∧ ((b11 = true) ∧ (True ∧ (((!decide ((r2 : Int) = 0)) = false) ∧ (True ∧ (((!decide ((r2 : Int) = 0)) = false) ∧ ((FlatL [.int .i64 r1] ∧ Pure Try.prog 11 [.int .i64 r1] (.int .u8 r12)) ∧ (((!decide ((r2 : Int) = 0)) = false) ∧ (True ∧ (((!decide ((r2 : Int) = 0)) = false) ∧ (True ∧ ((b11 = true) ∧ (((!decide ((r2 : Int) = 0)) = false) ∧ (True ∧ ((b11 = true) ∧ (True ∧ (True ∧ (((decide ((r12 : Int) = x0)) = true) ∧ (True ∧ (((decide ((r12 : Int) = x0)) = true) ∧ (True ∧ (True ∧ (((decide ((r12 : Int) = x0)) = true) ∧ (True ∧ (True ∧ (((decide ((r10 : Int) = 0)) = true) ∧ (True ∧ (((decide ((r10 : Int) = 0)) = true) ∧ (True ∧ (((decide ((r10 : Int) = 0)) = true) ∧ (((255 : Int) ≠ 0) ∧ (((decide ((r10 : Int) = 0)) = true) ∧ (((-9223372036854775808 : Int) ≤ (Int.tmod x1 255) + 255 ∧ ((Int.tmod x1 255) + 255 : Int) ≤ 9223372036854775807) ∧ (((decide ((r10 : Int) = 0)) = true) ∧ (((255 : Int) ≠ 0) ∧ (((decide ((r10 : Int) = 0)) = true) ∧ (True ∧ (True ∧ (((decide ((r10 : Int) = 0)) = true) ∧ (True ∧ (True ∧ True)))))))))))))))))))))))))))))))))))))))))))))))) ∧ True))))))))))))))))
    (by kernel_rfl) ⟨trivial, ⟨⟨trivial, ⟨trivial, trivial⟩⟩, ⟨trivial, ⟨⟨trivial, ⟨trivial, ⟨trivial, ⟨⟨by simp [FlatL, Flat, Flat2, Flat1, Row.cells], h1⟩, ⟨trivial, ⟨trivial, ⟨trivial, ⟨trivial, ⟨trivial, ⟨trivial, ⟨trivial, ⟨trivial, ⟨trivial, ⟨trivial, trivial⟩⟩⟩⟩⟩⟩⟩⟩⟩⟩⟩⟩⟩⟩, ⟨trivial, ⟨⟨trivial, ⟨trivial, ⟨trivial, ⟨⟨by simp [FlatL, Flat, Flat2, Flat1, Row.cells], h2⟩, ⟨trivial, ⟨trivial, ⟨trivial, ⟨trivial, ⟨trivial, ⟨trivial, ⟨trivial, ⟨trivial, ⟨trivial, ⟨trivial, trivial⟩⟩⟩⟩⟩⟩⟩⟩⟩⟩⟩⟩⟩⟩, ⟨trivial, ⟨trivial, ⟨⟨trivial, ⟨trivial, ⟨trivial, ⟨trivial, ⟨trivial, ⟨trivial, ⟨trivial, ⟨trivial, ⟨h3, ⟨trivial, ⟨h3, ⟨trivial, ⟨h3, ⟨trivial, ⟨trivial, ⟨h3, ⟨trivial, ⟨trivial, ⟨h4, ⟨trivial, ⟨h4, ⟨⟨by simp [FlatL, Flat, Flat2, Flat1, Row.cells], h5⟩, ⟨h4, ⟨trivial, ⟨h4, ⟨⟨by simp [FlatL, Flat, Flat2, Flat1, Row.cells], h6⟩, ⟨h4, ⟨trivial, ⟨trivial, ⟨h4, ⟨trivial, ⟨trivial, ⟨h7, ⟨trivial, ⟨h7, ⟨⟨by simp [FlatL, Flat, Flat2, Flat1, Row.cells], h8⟩, ⟨h7, ⟨trivial, ⟨trivial, ⟨h7, trivial⟩⟩⟩⟩⟩⟩⟩⟩⟩⟩⟩⟩⟩⟩⟩⟩⟩⟩⟩⟩⟩⟩⟩⟩⟩⟩⟩⟩⟩⟩⟩⟩⟩⟩⟩⟩⟩⟩⟩⟩, ⟨h9, ⟨trivial, ⟨trivial, ⟨⟨trivial, ⟨trivial, ⟨trivial, ⟨⟨by simp [FlatL, Flat, Flat2, Flat1, Row.cells], h10⟩, ⟨trivial, ⟨⟨by simp [FlatL, Flat, Flat2, Flat1, Row.cells], h11⟩, ⟨trivial, ⟨trivial, ⟨trivial, ⟨trivial, ⟨trivial, ⟨trivial, ⟨trivial, ⟨trivial, ⟨trivial, ⟨trivial, trivial⟩⟩⟩⟩⟩⟩⟩⟩⟩⟩⟩⟩⟩⟩⟩⟩, ⟨trivial, ⟨⟨trivial, ⟨⟨by simp [FlatL, Flat, Flat2, Flat1, Row.cells], h12⟩, ⟨trivial, ⟨trivial, ⟨h13, ⟨trivial, ⟨h13, ⟨trivial, ⟨h13, ⟨trivial, ⟨h14, ⟨trivial, ⟨h14, ⟨⟨by simp [FlatL, Flat, Flat2, Flat1, Row.cells], h15⟩, ⟨h14, ⟨trivial, ⟨h14, ⟨trivial, ⟨h13, ⟨h14, ⟨trivial, ⟨h13, ⟨trivial, ⟨trivial, ⟨h16, ⟨trivial, ⟨h16, ⟨trivial, ⟨trivial, ⟨h16, ⟨trivial, ⟨trivial, ⟨h17, ⟨trivial, ⟨h17, ⟨trivial, ⟨h17, ⟨(by decide), ⟨h17, ⟨h18, ⟨h17, ⟨(by decide), ⟨h17, ⟨trivial, ⟨trivial, ⟨h17, ⟨trivial, ⟨trivial, trivial⟩⟩⟩⟩⟩⟩⟩⟩⟩⟩⟩⟩⟩⟩⟩⟩⟩⟩⟩⟩⟩⟩⟩⟩⟩⟩⟩⟩⟩⟩⟩⟩⟩⟩⟩⟩⟩⟩⟩⟩⟩⟩⟩⟩⟩⟩⟩⟩, trivial⟩⟩⟩⟩⟩⟩⟩⟩⟩⟩⟩⟩⟩⟩⟩ ?_
  refine Ends.rekey (T' := [none, none, none, none, some (.bool (decide ((r9 : Int) = Int.tmod ((Int.tmod x1 255) + 255) 255))), none, none, none, none, none, none, none, none, none, none, none, none, none, none, none, none, none, none, none, none, none, none, none, none, none, none, none, none, none, none, none, none, none, none, none, none, none, none, none, none, none, none, none, none, none, none, none, none, none, none, none, none, none, none, none, none, none, none, none, none, none, none, none, none, none]) (H' := []) [] ⟨rfl, rfl, Nat.le_of_ble_eq_true rfl⟩ rfl rfl (And.intro rfl trivial) ?_
  exact (Ends.ret θok (C := (True ∧ True)) (by kernel_rfl) ⟨trivial, trivial⟩)




end f3

/-! "lockbox/lockboxref07.Inv" -/
namespace f15

noncomputable def body : Code := (Try.f15.body).getD .skip

abbrev H0 (x0 : Int) : Heap := []

def at0 (x0 : Int)  (v : Value) (Hf : Heap) : Prop :=
  Ends Try.prog Try.f15 (H0 x0) [.code (nav [] body)] [some (.int .u8 x0), none, none, none, none, none, none, none, none, none, none, none, none, none, none, none] [] v Hf

def at1 (x0 : Int) (i_1_4 : Int) (v : Value) (Hf : Heap) : Prop :=
  Ends Try.prog Try.f15 (H0 x0) [.code (nav [1, 0, 1, 0, 0] body), .inLoop (nav [1, 0, 1, 0, 0] body), .inBlock 0, .code (nav [1, 1] body)] [some (.int .u8 x0), none, some (.int .u8 0), some (.int .i64 0), some (.int .i64 i_1_4), none, none, none, none, none, none, none, none, none, none, none] [] v Hf

theorem ok {x0 : Int} {v : Value} {Hf : Heap} (h : at0 x0 v Hf) : FnOk Try.prog 15 [.int .u8 x0] [] v Hf :=
  Ends.fnOk Try.func15 (c := body) (by kernel_rfl) (by kernel_rfl) (by kernel_rfl) h

theorem s1 {x0 : Int}    {v : Value} {Hf : Heap} (hE : at1 x0 1 v Hf) : at0 x0  v Hf := by
  refine Ends.run θok mixed (n := 7) (hs := [])
    (todo' := [.code (nav [1, 0, 1, 0, 0] body), .inLoop (nav [1, 0, 1, 0, 0] body), .inBlock 0, .code (nav [1, 1] body)])
    (T' := [some (.int .u8 x0), none, some (.int .u8 0), some (.int .i64 0), some (.int .i64 1), none, none, none, none, none, none, none, none, none, none, none])
    (H' := [])
    (C := (True ∧ ((True ∧ (True ∧ (True ∧ (True ∧ True)))) ∧ (True ∧ (True ∧ ((True ∧ (True ∧ True)) ∧ (True ∧ (True ∧ True))))))))
    (by kernel_rfl) ⟨trivial, ⟨⟨trivial, ⟨trivial, ⟨trivial, ⟨trivial, trivial⟩⟩⟩⟩, ⟨trivial, ⟨trivial, ⟨⟨trivial, ⟨trivial, trivial⟩⟩, ⟨trivial, ⟨trivial, trivial⟩⟩⟩⟩⟩⟩⟩ ?_
  refine Ends.rekey (T' := [some (.int .u8 x0), none, some (.int .u8 0), some (.int .i64 0), some (.int .i64 1), none, none, none, none, none, none, none, none, none, none, none]) (H' := []) [] ⟨rfl, rfl, Nat.le_of_ble_eq_true rfl⟩ rfl rfl (And.intro rfl (And.intro rfl (And.intro rfl (And.intro rfl trivial)))) ?_
  exact hE

theorem s2 {x0 : Int} {i_1_4 : Int} {r1 : Int} (h1 : (decide ((i_1_4 : Int) < 256)) = true) (h2 : Pure Try.prog 19 [.int .u8 x0, .int .u8 (wrapE .u8 i_1_4)] (.int .u8 r1)) (h3 : (decide ((r1 : Int) = 1)) = true) : at1 x0 i_1_4 (.tuple #[.int .u8 (wrapE .u8 i_1_4), .int .i64 0]) [] := by
  refine Ends.run θok mixed (n := 12) (hs := [.b true, .call (.int .u8 r1), .b true])
    (todo' := [.code (nav [1, 0, 1, 0, 0, 1, 0, 0, 1, 0, 1] body), .inBlock 1, .code (nav [1, 0, 1, 0, 0, 1, 1] body), .inLoop (nav [1, 0, 1, 0, 0] body), .inBlock 0, .code (nav [1, 1] body)])
    (T' := [some (.int .u8 x0), none, some (.int .u8 (wrapE .u8 i_1_4)), some (.int .i64 0), some (.int .i64 i_1_4), some (.int .i64 i_1_4), some (.bool (decide ((i_1_4 : Int) < 256))), none, none, some (.int .u8 x0), some (.int .i64 i_1_4), some (.int .u8 (wrapE .u8 i_1_4)), some (.int .u8 r1), some (.bool (decide ((r1 : Int) = 1))), some (.int .i64 i_1_4), some (.int .u8 (wrapE .u8 i_1_4))])
    (H' := [])
    (C := (True ∧ (True ∧ ((True ∧ (True ∧ (True ∧ (True ∧ True)))) ∧ (((decide ((i_1_4 : Int) < 256)) = true) ∧ (True ∧ (True ∧ (True ∧ (True ∧ ((True ∧ (True ∧ (True ∧ (True ∧ (True ∧ (True ∧ (True ∧ ((FlatL [.int .u8 x0, .int .u8 (wrapE .u8 i_1_4)] ∧ Pure Try.prog 19 [.int .u8 x0, .int .u8 (wrapE .u8 i_1_4)] (.int .u8 r1)) ∧ (True ∧ (True ∧ True)))))))))) ∧ (((decide ((r1 : Int) = 1)) = true) ∧ (True ∧ ((True ∧ (True ∧ (True ∧ (True ∧ (True ∧ (True ∧ (True ∧ (True ∧ True)))))))) ∧ True)))))))))))))
    (by kernel_rfl) ⟨trivial, ⟨trivial, ⟨⟨trivial, ⟨trivial, ⟨trivial, ⟨trivial, trivial⟩⟩⟩⟩, ⟨h1, ⟨trivial, ⟨trivial, ⟨trivial, ⟨trivial, ⟨⟨trivial, ⟨trivial, ⟨trivial, ⟨trivial, ⟨trivial, ⟨trivial, ⟨trivial, ⟨⟨by simp [FlatL, Flat, Flat2, Flat1, Row.cells], h2⟩, ⟨trivial, ⟨trivial, trivial⟩⟩⟩⟩⟩⟩⟩⟩⟩⟩, ⟨h3, ⟨trivial, ⟨⟨trivial, ⟨trivial, ⟨trivial, ⟨trivial, ⟨trivial, ⟨trivial, ⟨trivial, ⟨trivial, trivial⟩⟩⟩⟩⟩⟩⟩⟩, trivial⟩⟩⟩⟩⟩⟩⟩⟩⟩⟩⟩⟩ ?_
  refine Ends.rekey (T' := [none, none, some (.int .u8 (wrapE .u8 i_1_4)), some (.int .i64 0), none, none, none, none, none, none, none, none, none, none, none, none]) (H' := []) [] ⟨rfl, rfl, Nat.le_of_ble_eq_true rfl⟩ rfl rfl (And.intro rfl (And.intro rfl trivial)) ?_
  exact (Ends.ret θok (C := (True ∧ (True ∧ True))) (by kernel_rfl) ⟨trivial, ⟨trivial, trivial⟩⟩)

theorem s3 {x0 : Int} {i_1_4 : Int}  (h1 : (decide ((i_1_4 : Int) < 256)) = false) : at1 x0 i_1_4 (.tuple #[.int .u8 0, .int .i64 1]) [] := by
  refine Ends.run θok mixed (n := 7) (hs := [.b false])
    (todo' := [.code (nav [1, 1, 1] body)])
    (T' := [some (.int .u8 x0), none, some (.int .u8 0), some (.int .i64 1), some (.int .i64 i_1_4), some (.int .i64 i_1_4), some (.bool (decide ((i_1_4 : Int) < 256))), none, none, none, none, none, none, none, none, none])
    (H' := [])
    (C := (True ∧ (True ∧ ((True ∧ (True ∧ (True ∧ (True ∧ True)))) ∧ (((decide ((i_1_4 : Int) < 256)) = false) ∧ (True ∧ (True ∧ ((True ∧ (True ∧ (True ∧ (True ∧ True)))) ∧ True))))))))
    (by kernel_rfl) ⟨trivial, ⟨trivial, ⟨⟨trivial, ⟨trivial, ⟨trivial, ⟨trivial, trivial⟩⟩⟩⟩, ⟨h1, ⟨trivial, ⟨trivial, ⟨⟨trivial, ⟨trivial, ⟨trivial, ⟨trivial, trivial⟩⟩⟩⟩, trivial⟩⟩⟩⟩⟩⟩⟩ ?_
  refine Ends.rekey (T' := [none, none, some (.int .u8 0), some (.int .i64 1), none, none, none, none, none, none, none, none, none, none, none, none]) (H' := []) [] ⟨rfl, rfl, Nat.le_of_ble_eq_true rfl⟩ rfl rfl (And.intro rfl (And.intro rfl trivial)) ?_
  exact (Ends.ret θok (C := (True ∧ (True ∧ True))) (by kernel_rfl) ⟨trivial, ⟨trivial, trivial⟩⟩)

theorem s4 {x0 : Int} {i_1_4 : Int} {r1 : Int} (h1 : (decide ((i_1_4 : Int) < 256)) = true) (h2 : Pure Try.prog 19 [.int .u8 x0, .int .u8 (wrapE .u8 i_1_4)] (.int .u8 r1)) (h3 : (decide ((r1 : Int) = 1)) = false) (h4 : (-9223372036854775808 : Int) ≤ i_1_4 + 1 ∧ (i_1_4 + 1 : Int) ≤ 9223372036854775807) {v : Value} {Hf : Heap} (hE : at1 x0 (i_1_4 + 1) v Hf) : at1 x0 i_1_4 v Hf := by
  refine Ends.run θok mixed (n := 14) (hs := [.b true, .call (.int .u8 r1), .b false])
    (todo' := [.code (nav [1, 0, 1, 0, 0] body), .inLoop (nav [1, 0, 1, 0, 0] body), .inBlock 0, .code (nav [1, 1] body)])
    (T' := [some (.int .u8 x0), none, some (.int .u8 0), some (.int .i64 0), some (.int .i64 (i_1_4 + 1)), some (.int .i64 i_1_4), some (.bool (decide ((i_1_4 : Int) < 256))), some (.int .i64 i_1_4), some (.int .i64 (i_1_4 + 1)), some (.int .u8 x0), some (.int .i64 i_1_4), some (.int .u8 (wrapE .u8 i_1_4)), some (.int .u8 r1), some (.bool (decide ((r1 : Int) = 1))), none, none])
    (H' := [])
    (C := (True ∧ (True ∧ ((True ∧ (True ∧ (True ∧ (True ∧ True)))) ∧ (((decide ((i_1_4 : Int) < 256)) = true) ∧ (True ∧ (True ∧ (True ∧ (True ∧ ((True ∧ (True ∧ (True ∧ (True ∧ (True ∧ (True ∧ (True ∧ ((FlatL [.int .u8 x0, .int .u8 (wrapE .u8 i_1_4)] ∧ Pure Try.prog 19 [.int .u8 x0, .int .u8 (wrapE .u8 i_1_4)] (.int .u8 r1)) ∧ (True ∧ (True ∧ True)))))))))) ∧ (((decide ((r1 : Int) = 1)) = false) ∧ (True ∧ (True ∧ ((True ∧ (True ∧ (True ∧ (((-9223372036854775808 : Int) ≤ i_1_4 + 1 ∧ (i_1_4 + 1 : Int) ≤ 9223372036854775807) ∧ (True ∧ (True ∧ True)))))) ∧ (True ∧ True)))))))))))))))
    (by kernel_rfl) ⟨trivial, ⟨trivial, ⟨⟨trivial, ⟨trivial, ⟨trivial, ⟨trivial, trivial⟩⟩⟩⟩, ⟨h1, ⟨trivial, ⟨trivial, ⟨trivial, ⟨trivial, ⟨⟨trivial, ⟨trivial, ⟨trivial, ⟨trivial, ⟨trivial, ⟨trivial, ⟨trivial, ⟨⟨by simp [FlatL, Flat, Flat2, Flat1, Row.cells], h2⟩, ⟨trivial, ⟨trivial, trivial⟩⟩⟩⟩⟩⟩⟩⟩⟩⟩, ⟨h3, ⟨trivial, ⟨trivial, ⟨⟨trivial, ⟨trivial, ⟨trivial, ⟨h4, ⟨trivial, ⟨trivial, trivial⟩⟩⟩⟩⟩⟩, ⟨trivial, trivial⟩⟩⟩⟩⟩⟩⟩⟩⟩⟩⟩⟩⟩⟩ ?_
  refine Ends.rekey (T' := [some (.int .u8 x0), none, some (.int .u8 0), some (.int .i64 0), some (.int .i64 (i_1_4 + 1)), none, none, none, none, none, none, none, none, none, none, none]) (H' := []) [] ⟨rfl, rfl, Nat.le_of_ble_eq_true rfl⟩ rfl rfl (And.intro rfl (And.intro rfl (And.intro rfl (And.intro rfl trivial)))) ?_
  exact hE

end f15

/-! "lockbox/gf.Div" -/
namespace f16

noncomputable def body : Code := (Try.f16.body).getD .skip

abbrev H0 (x0 : Int) (x1 : Int) : Heap := []

def at0 (x0 : Int) (x1 : Int)  (v : Value) (Hf : Heap) : Prop :=
  Ends Try.prog Try.f16 (H0 x0 x1) [.code (nav [] body)] [some (.int .u8 x0), some (.int .u8 x1), none, none, none, none, none, none, none, none, none, none, none, none, none, none, none] [] v Hf

theorem ok {x0 : Int} {x1 : Int} {v : Value} {Hf : Heap} (h : at0 x0 x1 v Hf) : FnOk Try.prog 16 [.int .u8 x0, .int .u8 x1] [] v Hf :=
  Ends.fnOk Try.func16 (c := body) (by kernel_rfl) (by kernel_rfl) (by kernel_rfl) h

theorem s1 {x0 : Int} {x1 : Int}  {r1 : Int} {r2 : Int} {r3 : Int} (h1 : Pure Try.prog 14 [.int .u8 x1] (.tuple #[.int .u8 r1, .int .i64 r2])) (h2 : Pure Try.prog 18 [.int .u8 x0, .int .u8 r1] (.int .u8 r3)) : at0 x0 x1  (.tuple #[.int .u8 r3, .int .i64 r2]) [] := by
  refine Ends.run θok mixed (n := 6) (hs := [.call (.tuple #[.int .u8 r1, .int .i64 r2]), .call (.int .u8 r3)])
    (todo' := [.code (nav [1, 1, 1] body)])
    (T' := [some (.int .u8 x0), some (.int .u8 x1), none, none, some (.int .u8 r3), some (.int .i64 r2), some (.int .u8 r1), some (.int .i64 r2), some (.tuple #[.int .u8 r1, .int .i64 r2]), some (.int .u8 x1), some (.tuple #[.int .u8 r1, .int .i64 r2]), some (.int .u8 r1), some (.int .i64 r2), some (.int .u8 x0), some (.int .u8 r1), some (.int .u8 r3), some (.int .i64 r2)])
    (H' := [])
    (C := (True ∧ ((True ∧ (True ∧ (True ∧ (True ∧ True)))) ∧ (True ∧ ((True ∧ (True ∧ (True ∧ ((FlatL [.int .u8 x1] ∧ Pure Try.prog 14 [.int .u8 x1] (.tuple #[.int .u8 r1, .int .i64 r2])) ∧ (True ∧ (True ∧ (True ∧ (True ∧ (True ∧ (True ∧ (True ∧ (True ∧ (True ∧ (True ∧ True)))))))))))))) ∧ (True ∧ ((True ∧ (True ∧ (True ∧ (True ∧ (True ∧ ((FlatL [.int .u8 x0, .int .u8 r1] ∧ Pure Try.prog 18 [.int .u8 x0, .int .u8 r1] (.int .u8 r3)) ∧ (True ∧ (True ∧ (True ∧ (True ∧ (True ∧ (True ∧ True)))))))))))) ∧ True)))))))
    (by kernel_rfl) ⟨trivial, ⟨⟨trivial, ⟨trivial, ⟨trivial, ⟨trivial, trivial⟩⟩⟩⟩, ⟨trivial, ⟨⟨trivial, ⟨trivial, ⟨trivial, ⟨⟨by simp [FlatL, Flat, Flat2, Flat1, Row.cells], h1⟩, ⟨trivial, ⟨trivial, ⟨trivial, ⟨trivial, ⟨trivial, ⟨trivial, ⟨trivial, ⟨trivial, ⟨trivial, ⟨trivial, trivial⟩⟩⟩⟩⟩⟩⟩⟩⟩⟩⟩⟩⟩⟩, ⟨trivial, ⟨⟨trivial, ⟨trivial, ⟨trivial, ⟨trivial, ⟨trivial, ⟨⟨by simp [FlatL, Flat, Flat2, Flat1, Row.cells], h2⟩, ⟨trivial, ⟨trivial, ⟨trivial, ⟨trivial, ⟨trivial, ⟨trivial, trivial⟩⟩⟩⟩⟩⟩⟩⟩⟩⟩⟩⟩, trivial⟩⟩⟩⟩⟩⟩ ?_
  refine Ends.rekey (T' := [none, none, none, none, some (.int .u8 r3), some (.int .i64 r2), none, none, none, none, none, none, none, none, none, none, none]) (H' := []) [] ⟨rfl, rfl, Nat.le_of_ble_eq_true rfl⟩ rfl rfl (And.intro rfl (And.intro rfl trivial)) ?_
  exact (Ends.ret θok (C := (True ∧ (True ∧ True))) (by kernel_rfl) ⟨trivial, ⟨trivial, trivial⟩⟩)

end f16

/-! "lockbox/gf.Add" -/
namespace f17

noncomputable def body : Code := (Try.f17.body).getD .skip

abbrev H0 (x0 : Int) (x1 : Int) : Heap := []

def at0 (x0 : Int) (x1 : Int)  (v : Value) (Hf : Heap) : Prop :=
  Ends Try.prog Try.f17 (H0 x0 x1) [.code (nav [] body)] [some (.int .u8 x0), some (.int .u8 x1), none, none, none, none, none, none] [] v Hf

theorem ok {x0 : Int} {x1 : Int} {v : Value} {Hf : Heap} (h : at0 x0 x1 v Hf) : FnOk Try.prog 17 [.int .u8 x0, .int .u8 x1] [] v Hf :=
  Ends.fnOk Try.func17 (c := body) (by kernel_rfl) (by kernel_rfl) (by kernel_rfl) h

theorem s1 {x0 : Int} {x1 : Int}    : at0 x0 x1  (.int .u8 (Go.bits .xor .u8 x0 x1)) [] := by
  refine Ends.run θok mixed (n := 4) (hs := [])
    (todo' := [.code (nav [1, 1] body)])
    (T' := [some (.int .u8 x0), some (.int .u8 x1), none, none, some (.int .u8 (Go.bits .xor .u8 x0 x1)), some (.int .u8 x0), some (.int .u8 x1), some (.int .u8 (Go.bits .xor .u8 x0 x1))])
    (H' := [])
    (C := (True ∧ ((True ∧ (True ∧ True)) ∧ (True ∧ ((True ∧ (True ∧ (True ∧ (True ∧ (True ∧ (True ∧ (True ∧ (True ∧ True)))))))) ∧ True)))))
    (by kernel_rfl) ⟨trivial, ⟨⟨trivial, ⟨trivial, trivial⟩⟩, ⟨trivial, ⟨⟨trivial, ⟨trivial, ⟨trivial, ⟨trivial, ⟨trivial, ⟨trivial, ⟨trivial, ⟨trivial, trivial⟩⟩⟩⟩⟩⟩⟩⟩, trivial⟩⟩⟩⟩ ?_
  refine Ends.rekey (T' := [none, none, none, none, some (.int .u8 (Go.bits .xor .u8 x0 x1)), none, none, none]) (H' := []) [] ⟨rfl, rfl, Nat.le_of_ble_eq_true rfl⟩ rfl rfl (And.intro rfl trivial) ?_
  exact (Ends.ret θok (C := (True ∧ True)) (by kernel_rfl) ⟨trivial, trivial⟩)

end f17

/-! "lockbox/lockboxlaw07.GfReckons" -/
namespace f4

noncomputable def body : Code := (Try.f4.body).getD .skip

abbrev H0 (x0 : Int) (x1 : Int) : Heap := []

def at0 (x0 : Int) (x1 : Int)  (v : Value) (Hf : Heap) : Prop :=
  Ends Try.prog Try.f4 (H0 x0 x1) [.code (nav [] body)] [some (.int .u8 x0), some (.int .u8 x1), none, none, none, none, none, none, none, none, none, none, none, none, none, none, none, none, none, none, none, none, none, none, none, none, none, none, none, none, none, none, none, none, none, none, none, none, none, none, none, none, none, none, none, none, none, none, none, none, none, none, none, none, none, none, none, none, none, none, none, none, none, none, none, none, none, none, none, none, none, none, none, none, none] [] v Hf

theorem ok {x0 : Int} {x1 : Int} {v : Value} {Hf : Heap} (h : at0 x0 x1 v Hf) : FnOk Try.prog 4 [.int .u8 x0, .int .u8 x1] [] v Hf :=
  Ends.fnOk Try.func4 (c := body) (by kernel_rfl) (by kernel_rfl) (by kernel_rfl) h

theorem s1 {x0 : Int} {x1 : Int}  {r1 : Int} {r2 : Int} {r3 : Int} {r4 : Int} {r5 : Int} {r6 : Int} {r7 : Int} {r8 : Int} {b9 : Bool} {r10 : Int} {r11 : Int} {r12 : Int} {r13 : Int} (h1 : Pure Try.prog 14 [.int .u8 x0] (.tuple #[.int .u8 r1, .int .i64 r2])) (h2 : Pure Try.prog 15 [.int .u8 x0] (.tuple #[.int .u8 r3, .int .i64 r4])) (h3 : Pure Try.prog 16 [.int .u8 x0, .int .u8 x1] (.tuple #[.int .u8 r5, .int .i64 r6])) (h4 : Pure Try.prog 15 [.int .u8 x1] (.tuple #[.int .u8 r7, .int .i64 r8])) (h5 : Pure Try.prog 13 [] (.bool b9)) (h6 : b9 = true) (h7 : Pure Try.prog 17 [.int .u8 x0, .int .u8 x1] (.int .u8 r10)) (h8 : (decide ((r10 : Int) = Go.bits .xor .u8 x0 x1)) = true) (h9 : Pure Try.prog 18 [.int .u8 x0, .int .u8 x1] (.int .u8 r11)) (h10 : Pure Try.prog 19 [.int .u8 x0, .int .u8 x1] (.int .u8 r12)) (h11 : (decide ((r11 : Int) = r12)) = true) (h12 : (decide ((r1 : Int) = r3)) = true) (h13 : (decide ((r2 : Int) = r4)) = true) (h14 : Pure Try.prog 19 [.int .u8 x0, .int .u8 r7] (.int .u8 r13)) (h15 : (decide ((r5 : Int) = r13)) = true) : at0 x0 x1  (.bool (decide ((r6 : Int) = r8))) [] := by
  refine Ends.run θok mixed (n := 12) (hs := [.call (.tuple #[.int .u8 r1, .int .i64 r2]), .call (.tuple #[.int .u8 r3, .int .i64 r4]), .call (.tuple #[.int .u8 r5, .int .i64 r6]), .call (.tuple #[.int .u8 r7, .int .i64 r8]), .call (.bool b9), .b true, .b true, .b true, .call (.int .u8 r10), .b true, .b true, .b true, .b true, .b true, .b true, .b true, .b true, .call (.int .u8 r11), .b true, .b true, .b true, .call (.int .u8 r12), .b true, .b true, .b true, .b true, .b true, .b true, .b true, .b true, .b true, .b true, .b true, .b true, .b true, .b true, .call (.int .u8 r13), .b true, .b true, .b true, .b true, .b true, .b true])
    (todo' := [.code (nav [1, 1, 1, 1, 1, 1] body)])
    (T' := [some (.int .u8 x0), some (.int .u8 x1), none, none, some (.bool (decide ((r6 : Int) = r8))), some (.int .u8 r1), some (.int .i64 r2), some (.int .u8 r3), some (.int .i64 r4), some (.int .u8 r5), some (.int .i64 r6), some (.int .u8 r7), some (.int .i64 r8), some (.tuple #[.int .u8 r1, .int .i64 r2]), some (.int .u8 x0), some (.tuple #[.int .u8 r1, .int .i64 r2]), some (.int .u8 r1), some (.int .i64 r2), some (.tuple #[.int .u8 r3, .int .i64 r4]), some (.int .u8 x0), some (.tuple #[.int .u8 r3, .int .i64 r4]), some (.int .u8 r3), some (.int .i64 r4), some (.tuple #[.int .u8 r5, .int .i64 r6]), some (.int .u8 x0), some (.int .u8 x1), some (.tuple #[.int .u8 r5, .int .i64 r6]), some (.int .u8 r5), some (.int .i64 r6), some (.tuple #[.int .u8 r7, .int .i64 r8]), some (.int .u8 x1), some (.tuple #[.int .u8 r7, .int .i64 r8]), some (.int .u8 r7), some (.int .i64 r8), some (.bool b9), some (.bool b9), some (.int .u8 x0), some (.int .u8 x1), some (.int .u8 r10), some (.int .u8 x0), some (.int .u8 x1), some (.int .u8 (Go.bits .xor .u8 x0 x1)), some (.bool (decide ((r10 : Int) = Go.bits .xor .u8 x0 x1))), some (.bool (decide ((r10 : Int) = Go.bits .xor .u8 x0 x1))), some (.bool (decide ((r10 : Int) = Go.bits .xor .u8 x0 x1))), some (.int .u8 x0), some (.int .u8 x1), some (.int .u8 r11), some (.int .u8 x0), some (.int .u8 x1), some (.int .u8 r12), some (.bool (decide ((r11 : Int) = r12))), some (.bool (decide ((r11 : Int) = r12))), some (.bool (decide ((r11 : Int) = r12))), some (.int .u8 r1), some (.int .u8 r3), some (.bool (decide ((r1 : Int) = r3))), some (.bool (decide ((r1 : Int) = r3))), some (.bool (decide ((r1 : Int) = r3))), some (.int .i64 r2), some (.int .i64 r4), some (.bool (decide ((r2 : Int) = r4))), some (.bool (decide ((r2 : Int) = r4))), some (.bool (decide ((r2 : Int) = r4))), some (.int .u8 r5), some (.int .u8 x0), some (.int .u8 r7), some (.int .u8 r13), some (.bool (decide ((r5 : Int) = r13))), some (.bool (decide ((r5 : Int) = r13))), some (.bool (decide ((r5 : Int) = r13))), some (.int .i64 r6), some (.int .i64 r8), some (.bool (decide ((r6 : Int) = r8))), some (.bool (decide ((r6 : Int) = r8)))])
    (H' := [])
    (C := (True ∧ ((True ∧ (True ∧ True)) ∧ (True ∧ ((True ∧ (True ∧ (True ∧ ((FlatL [.int .u8 x0] ∧ Pure Try.prog 14 [.int .u8 x0] (.tuple #[.int .u8 r1, .int .i64 r2])) ∧ (True ∧ (True ∧ (True ∧ (True ∧ (True ∧ (True ∧ (True ∧ (True ∧ (True ∧ (True ∧ True)))))))))))))) ∧ (True ∧ ((True ∧ (True ∧ (True ∧ ((FlatL [.int .u8 x0] ∧ Pure Try.prog 15 [.int .u8 x0] (.tuple #[.int .u8 r3, .int .i64 r4])) ∧ (True ∧ (True ∧ (True ∧ (True ∧ (True ∧ (True ∧ (True ∧ (True ∧ (True ∧ (True ∧ True)))))))))))))) ∧ (True ∧ ((True ∧ (True ∧ (True ∧ (True ∧ (True ∧ ((FlatL [.int .u8 x0, .int .u8 x1] ∧ Pure Try.prog 16 [.int .u8 x0, .int .u8 x1] (.tuple #[.int .u8 r5, .int .i64 r6])) ∧ (True ∧ (True ∧ (True ∧ (True ∧ (True ∧ (True ∧ (True ∧ (True ∧ (True ∧ (True ∧ True)))))))))))))))) ∧ (True ∧ ((True ∧ (True ∧ (True ∧ ((FlatL [.int .u8 x1] ∧ Pure Try.prog 15 [.int .u8 x1] (.tuple #[.int .u8 r7, .int .i64 r8])) ∧ (True ∧ (True ∧ (True ∧ (True ∧ (True ∧ (True ∧ (True ∧ (True ∧ (True ∧ (True ∧ True)))))))))))))) ∧ (True ∧ ((True ∧ ((FlatL [] ∧ Pure Try.prog 13 [] (.bool b9)) ∧ (True ∧ (True ∧ ((b9 = true) ∧ (True ∧ ((b9 = true) ∧ (True ∧ ((b9 = true) ∧ ((FlatL [.int .u8 x0, .int .u8 x1] ∧ Pure Try.prog 17 [.int .u8 x0, .int .u8 x1] (.int .u8 r10)) ∧ ((b9 = true) ∧ (True ∧ ((b9 = true) ∧ (True ∧ ((b9 = true) ∧ (True ∧ ((b9 = true) ∧ (True ∧ (True ∧ ((b9 = true) ∧ (True ∧ (True ∧ (((decide ((r10 : Int) = Go.bits .xor .u8 x0 x1)) = true) ∧ (True ∧ (((decide ((r10 : Int) = Go.bits .xor .u8 x0 x1)) = true) ∧ (True ∧ (((decide ((r10 : Int) = Go.bits .xor .u8 x0 x1)) = true) ∧ ((FlatL [.int .u8 x0, .int .u8 x1] ∧ Pure Try.prog 18 [.int .u8 x0, .int .u8 x1] (.int .u8 r11)) ∧ (((decide ((r10 : Int) = Go.bits .xor .u8 x0 x1)) = true) ∧ (True ∧ (((decide ((r10 : Int) = Go.bits .xor .u8 x0 x1)) = true) ∧ (True ∧ (((decide ((r10 : Int) = Go.bits .xor .u8 x0 x1)) = true) ∧ ((FlatL [.int .u8 x0, .int .u8 x1] ∧ Pure Try.prog 19 [.int .u8 x0, .int .u8 x1] (.int .u8 r12)) ∧ (((decide ((r10 : Int) = Go.bits .xor .u8 x0 x1)) = true) ∧ (True ∧ (True ∧ (((decide ((r10 : Int) = Go.bits .xor .u8 x0 x1)) = true) ∧ (True ∧ (True ∧ (((decide ((r11 : Int) = r12)) = true) ∧ (True ∧ (((decide ((r11 : Int) = r12)) = true) ∧ (True ∧ (((decide ((r11 : Int) = r12)) = true) ∧ (True ∧ (True ∧ (((decide ((r11 : Int) = r12)) = true) ∧ (True ∧ (True ∧ (((decide ((r1 : Int) = r3)) = true) ∧ (True ∧ (((decide ((r1 : Int) = r3)) = true) ∧ (True ∧ (((decide ((r1 : Int) = r3)) = true) ∧ (True ∧ (True ∧ (((decide ((r1 : Int) = r3)) = true) ∧ (True ∧ (True ∧ (((decide ((r2 : Int) = r4)) = true) ∧ (True ∧ (((decide ((r2 : Int) = r4)) = true) ∧ (True ∧ (((decide ((r2 : Int) = r4)) = true) ∧ (True ∧ (((decide ((r2 : Int) = r4)) = true) ∧ ((FlatL [.int .u8 x0, .int .u8 r7] ∧ Pure Try.prog 19 [.int .u8 x0, .int .u8 r7] (.int .u8 r13)) ∧ (((decide ((r2 : Int) = r4)) = true) ∧ (True ∧ (True ∧ (((decide ((r2 : Int) = r4)) = true) ∧ (True ∧ (True ∧ (((decide ((r5 : Int) = r13)) = true) ∧ (True ∧ (((decide ((r5 : Int) = r13)) = true) ∧ (True ∧ (((decide ((r5 : Int) = r13)) = true) ∧ (True ∧ (True ∧ (((decide ((r5 : Int) = r13)) = true) ∧ (True ∧ (True ∧ True)))))))))))))))))))))))))))))))))))))))))))))))))))))))))))))))))))))))))))))))))))) ∧ True)))))))))))))
    (by kernel_rfl) ⟨trivial, ⟨⟨trivial, ⟨trivial, trivial⟩⟩, ⟨trivial, ⟨⟨trivial, ⟨trivial, ⟨trivial, ⟨⟨by simp [FlatL, Flat, Flat2, Flat1, Row.cells], h1⟩, ⟨trivial, ⟨trivial, ⟨trivial, ⟨trivial, ⟨trivial, ⟨trivial, ⟨trivial, ⟨trivial, ⟨trivial, ⟨trivial, trivial⟩⟩⟩⟩⟩⟩⟩⟩⟩⟩⟩⟩⟩⟩, ⟨trivial, ⟨⟨trivial, ⟨trivial, ⟨trivial, ⟨⟨by simp [FlatL, Flat, Flat2, Flat1, Row.cells], h2⟩, ⟨trivial, ⟨trivial, ⟨trivial, ⟨trivial, ⟨trivial, ⟨trivial, ⟨trivial, ⟨trivial, ⟨trivial, ⟨trivial, trivial⟩⟩⟩⟩⟩⟩⟩⟩⟩⟩⟩⟩⟩⟩, ⟨trivial, ⟨⟨trivial, ⟨trivial, ⟨trivial, ⟨trivial, ⟨trivial, ⟨⟨by simp [FlatL, Flat, Flat2, Flat1, Row.cells], h3⟩, ⟨trivial, ⟨trivial, ⟨trivial, ⟨trivial, ⟨trivial, ⟨trivial, ⟨trivial, ⟨trivial, ⟨trivial, ⟨trivial, trivial⟩⟩⟩⟩⟩⟩⟩⟩⟩⟩⟩⟩⟩⟩⟩⟩, ⟨trivial, ⟨⟨trivial, ⟨trivial, ⟨trivial, ⟨⟨by simp [FlatL, Flat, Flat2, Flat1, Row.cells], h4⟩, ⟨trivial, ⟨trivial, ⟨trivial, ⟨trivial, ⟨trivial, ⟨trivial, ⟨trivial, ⟨trivial, ⟨trivial, ⟨trivial, trivial⟩⟩⟩⟩⟩⟩⟩⟩⟩⟩⟩⟩⟩⟩, ⟨trivial, ⟨⟨trivial, ⟨⟨by simp [FlatL, Flat, Flat2, Flat1, Row.cells], h5⟩, ⟨trivial, ⟨trivial, ⟨h6, ⟨trivial, ⟨h6, ⟨trivial, ⟨h6, ⟨⟨by simp [FlatL, Flat, Flat2, Flat1, Row.cells], h7⟩, ⟨h6, ⟨trivial, ⟨h6, ⟨trivial, ⟨h6, ⟨trivial, ⟨h6, ⟨trivial, ⟨trivial, ⟨h6, ⟨trivial, ⟨trivial, ⟨h8, ⟨trivial, ⟨h8, ⟨trivial, ⟨h8, ⟨⟨by simp [FlatL, Flat, Flat2, Flat1, Row.cells], h9⟩, ⟨h8, ⟨trivial, ⟨h8, ⟨trivial, ⟨h8, ⟨⟨by simp [FlatL, Flat, Flat2, Flat1, Row.cells], h10⟩, ⟨h8, ⟨trivial, ⟨trivial, ⟨h8, ⟨trivial, ⟨trivial, ⟨h11, ⟨trivial, ⟨h11, ⟨trivial, ⟨h11, ⟨trivial, ⟨trivial, ⟨h11, ⟨trivial, ⟨trivial, ⟨h12, ⟨trivial, ⟨h12, ⟨trivial, ⟨h12, ⟨trivial, ⟨trivial, ⟨h12, ⟨trivial, ⟨trivial, ⟨h13, ⟨trivial, ⟨h13, ⟨trivial, ⟨h13, ⟨trivial, ⟨h13, ⟨⟨by simp [FlatL, Flat, Flat2, Flat1, Row.cells], h14⟩, ⟨h13, ⟨trivial, ⟨trivial, ⟨h13, ⟨trivial, ⟨trivial, ⟨h15, ⟨trivial, ⟨h15, ⟨trivial, ⟨h15, ⟨trivial, ⟨trivial, ⟨h15, ⟨trivial, ⟨trivial, trivial⟩⟩⟩⟩⟩⟩⟩⟩⟩⟩⟩⟩⟩⟩⟩⟩⟩⟩⟩⟩⟩⟩⟩⟩⟩⟩⟩⟩⟩⟩⟩⟩⟩⟩⟩⟩⟩⟩⟩⟩⟩⟩⟩⟩⟩⟩⟩⟩⟩⟩⟩⟩⟩⟩⟩⟩⟩⟩⟩⟩⟩⟩⟩⟩⟩⟩⟩⟩⟩⟩⟩⟩⟩⟩⟩⟩⟩⟩⟩⟩⟩⟩⟩⟩, trivial⟩⟩⟩⟩⟩⟩⟩⟩⟩⟩⟩⟩ ?_
  refine Ends.rekey (T' := [none, none, none, none, some (.bool (decide ((r6 : Int) = r8))), none, none, none, none, none, none, none, none, none, none, none, none, none, none, none, none, none, none, none, none, none, none, none, none, none, none, none, none, none, none, none, none, none, none, none, none, none, none, none, none, none, none, none, none, none, none, none, none, none, none, none, none, none, none, none, none, none, none, none, none, none, none, none, none, none, none, none, none, none, none]) (H' := []) [] ⟨rfl, rfl, Nat.le_of_ble_eq_true rfl⟩ rfl rfl (And.intro rfl trivial) ?_
  exact (Ends.ret θok (C := (True ∧ True)) (by kernel_rfl) ⟨trivial, trivial⟩)







end f4

end Go.Proofs.Ytgedgcbljfmpaaa.Abs.Seg07
