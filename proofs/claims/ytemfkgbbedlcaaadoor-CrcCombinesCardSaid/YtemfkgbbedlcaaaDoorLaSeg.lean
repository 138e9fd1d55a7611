/- What each stretch of the functions' code does, printed by a program of this session and checked by Lean's kernel. -/
import Derived.Test.YtemfkgbbedlcaaaDoorChecked
import Derived.Test.YtemfkgbbedlcaaaDoorAbsB
set_option linter.unusedVariables false
set_option linter.unusedSimpArgs false
set_option maxRecDepth 100000
namespace Go.Proofs.YtemfkgbbedlcaaaDoor.Abs.Seg03
open Go Go.RowKit Go.Proofs Go.Proofs.YtemfkgbbedlcaaaDoor.Abs

noncomputable def θ : Types := [
  (3, ⟨.int .i64, 1, 8, .ints .i64 ([0])⟩),
  (4, ⟨.bool, 1, 1, .vals [.bool false]⟩),
  (5, ⟨.int .u8, 1, 1, .ints .u8 ([0])⟩),
  (9, ⟨.str, 1, 16, .strs ([ByteArray.empty])⟩),
  (22, ⟨.int .u32, 1, 4, .ints .u32 ([0])⟩),
  (28, ⟨.int .u64, 1, 8, .ints .u64 ([0])⟩),
  (29, ⟨.slice 5, 1, 24, .vals [.slice none 0 0]⟩),
  (31, ⟨.slice 9, 1, 24, .vals [.slice none 0 0]⟩),
  (38, ⟨.arr 16 22, 16, 64, .ints .u32 (List.replicate 16 (0 : Int))⟩),
  (41, ⟨.arr 32 22, 32, 128, .ints .u32 (List.replicate 32 (0 : Int))⟩),
  (45, ⟨.arr 32 5, 32, 32, .ints .u8 (List.replicate 32 (0 : Int))⟩)]
theorem θok : θ.Ok Tryd.prog := ⟨⟨by kernel_rfl, by kernel_rfl, by kernel_rfl⟩, ⟨by kernel_rfl, by kernel_rfl, by kernel_rfl⟩, ⟨by kernel_rfl, by kernel_rfl, by kernel_rfl⟩, ⟨by kernel_rfl, by kernel_rfl, by kernel_rfl⟩, ⟨by kernel_rfl, by kernel_rfl, by kernel_rfl⟩, ⟨by kernel_rfl, by kernel_rfl, by kernel_rfl⟩, ⟨by kernel_rfl, by kernel_rfl, by kernel_rfl⟩, ⟨by kernel_rfl, by kernel_rfl, by kernel_rfl⟩, ⟨by kernel_rfl, by kernel_rfl, by kernel_rfl⟩, ⟨by kernel_rfl, by kernel_rfl, by kernel_rfl⟩, ⟨by kernel_rfl, by kernel_rfl, by kernel_rfl⟩, trivial⟩
theorem mixed : Tryd.prog.follows .mixedOrders = true := by kernel_rfl

/-! "lockbox/crc.Sum" -/
namespace f12

noncomputable def body : Code := (Tryd.f12.body).getD .skip

abbrev H0 (s0 : ByteArray) : Heap := []

def at0 (s0 : ByteArray)  (v : Value) (Hf : Heap) : Prop :=
  Ends Tryd.prog Tryd.f12 (H0 s0) [.code (nav [] body)] [some (.string s0), none, none, none, none] [] v Hf

theorem ok {s0 : ByteArray} {v : Value} {Hf : Heap} (h : at0 s0 v Hf) : FnOk Tryd.prog 12 [.string s0] [] v Hf :=
  Ends.fnOk Tryd.func12 (c := body) (by kernel_rfl) (by kernel_rfl) (by kernel_rfl) h

theorem s1 {s0 : ByteArray}  {r1 : Int} (h1 : Pure Tryd.prog 14 [.int .u32 0, .string s0] (.int .u32 r1)) : at0 s0  (.int .u32 r1) [] := by
  refine Ends.run θok mixed (n := 4) (hs := [.call (.int .u32 r1)])
    (todo' := [.code (nav [1, 1] body)])
    (T' := [some (.string s0), none, some (.int .u32 r1), some (.string s0), some (.int .u32 r1)])
    (H' := [])
    (C := (True ∧ ((True ∧ (True ∧ True)) ∧ (True ∧ ((True ∧ (True ∧ (True ∧ ((FlatL [.int .u32 0, .string s0] ∧ Pure Tryd.prog 14 [.int .u32 0, .string s0] (.int .u32 r1)) ∧ (True ∧ (True ∧ True)))))) ∧ True)))))
    (by kernel_rfl) ⟨trivial, ⟨⟨trivial, ⟨trivial, trivial⟩⟩, ⟨trivial, ⟨⟨trivial, ⟨trivial, ⟨trivial, ⟨⟨by simp [FlatL, Flat, Flat2, Flat1, Row.cells], h1⟩, ⟨trivial, ⟨trivial, trivial⟩⟩⟩⟩⟩⟩, trivial⟩⟩⟩⟩ ?_
  refine Ends.rekey (T' := [none, none, some (.int .u32 r1), none, none]) (H' := []) [] ⟨rfl, rfl, Nat.le_of_ble_eq_true rfl⟩ rfl rfl (And.intro rfl trivial) ?_
  exact (Ends.ret θok (C := (True ∧ True)) (by kernel_rfl) ⟨trivial, trivial⟩)

end f12

/-! "lockbox/lockboxref03.Sum" -/
namespace f13

noncomputable def body : Code := (Tryd.f13.body).getD .skip

abbrev H0 (s0 : ByteArray) : Heap := []

def at0 (s0 : ByteArray)  (v : Value) (Hf : Heap) : Prop :=
  Ends Tryd.prog Tryd.f13 (H0 s0) [.code (nav [] body)] [some (.string s0), none, none, none, none] [] v Hf

theorem ok {s0 : ByteArray} {v : Value} {Hf : Heap} (h : at0 s0 v Hf) : FnOk Tryd.prog 13 [.string s0] [] v Hf :=
  Ends.fnOk Tryd.func13 (c := body) (by kernel_rfl) (by kernel_rfl) (by kernel_rfl) h

theorem s1 {s0 : ByteArray}  {r1 : Int} (h1 : Pure Tryd.prog 15 [.int .u32 0, .string s0] (.int .u32 r1)) : at0 s0  (.int .u32 r1) [] := by
  refine Ends.run θok mixed (n := 4) (hs := [.call (.int .u32 r1)])
    (todo' := [.code (nav [1, 1] body)])
    (T' := [some (.string s0), none, some (.int .u32 r1), some (.string s0), some (.int .u32 r1)])
    (H' := [])
    (C := (True ∧ ((True ∧ (True ∧ True)) ∧ (True ∧ ((True ∧ (True ∧ (True ∧ ((FlatL [.int .u32 0, .string s0] ∧ Pure Tryd.prog 15 [.int .u32 0, .string s0] (.int .u32 r1)) ∧ (True ∧ (True ∧ True)))))) ∧ True)))))
    (by kernel_rfl) ⟨trivial, ⟨⟨trivial, ⟨trivial, trivial⟩⟩, ⟨trivial, ⟨⟨trivial, ⟨trivial, ⟨trivial, ⟨⟨by simp [FlatL, Flat, Flat2, Flat1, Row.cells], h1⟩, ⟨trivial, ⟨trivial, trivial⟩⟩⟩⟩⟩⟩, trivial⟩⟩⟩⟩ ?_
  refine Ends.rekey (T' := [none, none, some (.int .u32 r1), none, none]) (H' := []) [] ⟨rfl, rfl, Nat.le_of_ble_eq_true rfl⟩ rfl rfl (And.intro rfl trivial) ?_
  exact (Ends.ret θok (C := (True ∧ True)) (by kernel_rfl) ⟨trivial, trivial⟩)

end f13

/-! "lockbox/crc.More" -/
namespace f14

noncomputable def body : Code := (Tryd.f14.body).getD .skip

abbrev H0 (x0 : Int) (s1 : ByteArray) : Heap := []

def at0 (x0 : Int) (s1 : ByteArray)  (v : Value) (Hf : Heap) : Prop :=
  Ends Tryd.prog Tryd.f14 (H0 x0 s1) [.code (nav [] body)] [some (.int .u32 x0), some (.string s1), none, none, none, none, none, none, none, none, none, none, none, none, none, none, none, none, none, none, none, none, none, none, none, none, none, none, none, none, none, none, none, none, none, none, none, none, none, none, none, none, none] [] v Hf

def at1 (x0 : Int) (s1 : ByteArray) (i_1_5 : Int) (i_1_13 : Int) (i_1_14 : Int) (xs_1_k0 : List Int) (v : Value) (Hf : Heap) : Prop :=
  Ends Tryd.prog Tryd.f14 (H0 x0 s1) [.code (nav [1, 1, 0, 1, 0, 0] body), .inLoop (nav [1, 1, 0, 1, 0, 0] body), .inBlock 0, .code (nav [1, 1, 1] body)] [none, some (.string s1), none, none, some (.int .u32 0), some (.int .u32 i_1_5), some (.pointer (some ⟨0, 0, none⟩)), none, none, none, none, none, none, some (.int .i64 i_1_13), some (.int .i64 i_1_14), none, none, none, none, none, none, none, none, none, none, none, none, none, none, none, none, none, none, none, none, none, none, none, none, none, none, none, none] [some ⟨true, 38, .ints .u32 xs_1_k0⟩] v Hf

theorem ok {x0 : Int} {s1 : ByteArray} {v : Value} {Hf : Heap} (h : at0 x0 s1 v Hf) : FnOk Tryd.prog 14 [.int .u32 x0, .string s1] [] v Hf :=
  Ends.fnOk Tryd.func14 (c := body) (by kernel_rfl) (by kernel_rfl) (by kernel_rfl) h

theorem s1 {x0 : Int} {s1 : ByteArray}  {ys1 : List Int} (h1 : Pure Tryd.prog 21 [] (.agg (Row.cells (.ints .u32 ys1)).toArray)) (h2 : Row.len (.ints .u32 ys1) = Row.len (.ints .u32 (List.replicate 16 (0 : Int)))) (h3 : Array.size (Row.cells (.ints .u32 ys1)).toArray = 16) {v : Value} {Hf : Heap} (hE : at1 x0 s1 (Go.bits .xor .u32 4294967295 x0) (ByteArray.size s1 : Int) 0 ys1 v Hf) : at0 x0 s1  v Hf := by
  refine Ends.run θok mixed (n := 9) (hs := [.call (.agg (Row.cells (.ints .u32 ys1)).toArray), .row (.ints .u32 ys1)])
    (todo' := [.code (nav [1, 1, 0, 1, 0, 0] body), .inLoop (nav [1, 1, 0, 1, 0, 0] body), .inBlock 0, .code (nav [1, 1, 1] body)])
    (T' := [some (.int .u32 x0), some (.string s1), none, none, some (.int .u32 0), some (.int .u32 (Go.bits .xor .u32 4294967295 x0)), some (.pointer (some ⟨0, 0, none⟩)), none, none, some (.int .u32 x0), some (.int .u32 (Go.bits .xor .u32 4294967295 x0)), some (.agg (Row.cells (.ints .u32 ys1)).toArray), some (.string s1), some (.int .i64 (ByteArray.size s1 : Int)), some (.int .i64 0), none, none, none, none, none, none, none, none, none, none, none, none, none, none, none, none, none, none, none, none, none, none, none, none, none, none, none, none])
    (H' := [some ⟨true, 38, .ints .u32 ys1⟩])
    (C := (True ∧ ((True ∧ (True ∧ True)) ∧ (True ∧ ((True ∧ (True ∧ (True ∧ (True ∧ (True ∧ ((FlatL [] ∧ Pure Tryd.prog 21 [] (.agg (Row.cells (.ints .u32 ys1)).toArray)) ∧ (True ∧ (True ∧ (True ∧ (True ∧ (True ∧ ((((Row.cells (.ints .u32 ys1) = Array.toList (Row.cells (.ints .u32 ys1)).toArray) ∧ (((0 : Nat) = 0) ∧ (Row.len (.ints .u32 ys1) = Row.len (.ints .u32 (List.replicate 16 (0 : Int)))))) ∧ (Array.size (Row.cells (.ints .u32 ys1)).toArray = 16)) ∧ True)))))))))))) ∧ (True ∧ (True ∧ ((True ∧ (True ∧ (True ∧ (True ∧ (True ∧ (True ∧ True)))))) ∧ (True ∧ (True ∧ True))))))))))
    (by kernel_rfl) ⟨trivial, ⟨⟨trivial, ⟨trivial, trivial⟩⟩, ⟨trivial, ⟨⟨trivial, ⟨trivial, ⟨trivial, ⟨trivial, ⟨trivial, ⟨⟨by simp [FlatL, Flat, Flat2, Flat1, Row.cells], h1⟩, ⟨trivial, ⟨trivial, ⟨trivial, ⟨trivial, ⟨trivial, ⟨⟨⟨rfl, ⟨rfl, h2⟩⟩, h3⟩, trivial⟩⟩⟩⟩⟩⟩⟩⟩⟩⟩⟩⟩, ⟨trivial, ⟨trivial, ⟨⟨trivial, ⟨trivial, ⟨trivial, ⟨trivial, ⟨trivial, ⟨trivial, trivial⟩⟩⟩⟩⟩⟩, ⟨trivial, ⟨trivial, trivial⟩⟩⟩⟩⟩⟩⟩⟩⟩ ?_
  refine Ends.rekey (T' := [none, some (.string s1), none, none, some (.int .u32 0), some (.int .u32 (Go.bits .xor .u32 4294967295 x0)), some (.pointer (some ⟨0, 0, none⟩)), none, none, none, none, none, none, some (.int .i64 (ByteArray.size s1 : Int)), some (.int .i64 0), none, none, none, none, none, none, none, none, none, none, none, none, none, none, none, none, none, none, none, none, none, none, none, none, none, none, none, none]) (H' := [some ⟨true, 38, .ints .u32 ys1⟩]) [0] ⟨rfl, rfl, Nat.le_of_ble_eq_true rfl⟩ rfl rfl (And.intro rfl (And.intro rfl (And.intro rfl (And.intro rfl (And.intro rfl (And.intro rfl trivial)))))) ?_
  exact hE

theorem s2 {x0 : Int} {s1 : ByteArray} {i_1_5 : Int} {i_1_13 : Int} {i_1_14 : Int} {xs_1_k0 : List Int}  (h1 : (decide ((i_1_14 : Int) < i_1_13)) = true) (h2 : (0 : Int) ≤ i_1_14 ∧ i_1_14 < (ByteArray.size s1 : Int)) (h3 : (0 : Int) ≤ bt s1 i_1_14 ∧ (bt s1 i_1_14 : Int) ≤ 4294967295) (h4 : (0 : Int) ≤ Go.bits .and .u32 (Go.bits .xor .u32 i_1_5 (bt s1 i_1_14)) 15 ∧ (Go.bits .and .u32 (Go.bits .xor .u32 i_1_5 (bt s1 i_1_14)) 15 : Int) < 16) (h5 : 0 + ((Int.toNat (Go.bits .and .u32 (Go.bits .xor .u32 i_1_5 (bt s1 i_1_14)) 15)) * 1) < List.length xs_1_k0) (h6 : (0 : Int) ≤ Go.bits .and .u32 (Go.bits .xor .u32 (Go.bits .xor .u32 (i_1_5 / 2 ^ 4) (rd xs_1_k0 (0 + ((Int.toNat (Go.bits .and .u32 (Go.bits .xor .u32 i_1_5 (bt s1 i_1_14)) 15)) * 1)))) ((bt s1 i_1_14) / 2 ^ 4)) 15 ∧ (Go.bits .and .u32 (Go.bits .xor .u32 (Go.bits .xor .u32 (i_1_5 / 2 ^ 4) (rd xs_1_k0 (0 + ((Int.toNat (Go.bits .and .u32 (Go.bits .xor .u32 i_1_5 (bt s1 i_1_14)) 15)) * 1)))) ((bt s1 i_1_14) / 2 ^ 4)) 15 : Int) < 16) (h7 : 0 + ((Int.toNat (Go.bits .and .u32 (Go.bits .xor .u32 (Go.bits .xor .u32 (i_1_5 / 2 ^ 4) (rd xs_1_k0 (0 + ((Int.toNat (Go.bits .and .u32 (Go.bits .xor .u32 i_1_5 (bt s1 i_1_14)) 15)) * 1)))) ((bt s1 i_1_14) / 2 ^ 4)) 15)) * 1) < List.length xs_1_k0) (h8 : (-9223372036854775808 : Int) ≤ i_1_14 + 1 ∧ (i_1_14 + 1 : Int) ≤ 9223372036854775807) {v : Value} {Hf : Heap} (hE : at1 x0 s1 (Go.bits .xor .u32 ((Go.bits .xor .u32 (i_1_5 / 2 ^ 4) (rd xs_1_k0 (0 + ((Int.toNat (Go.bits .and .u32 (Go.bits .xor .u32 i_1_5 (bt s1 i_1_14)) 15)) * 1)))) / 2 ^ 4) (rd xs_1_k0 (0 + ((Int.toNat (Go.bits .and .u32 (Go.bits .xor .u32 (Go.bits .xor .u32 (i_1_5 / 2 ^ 4) (rd xs_1_k0 (0 + ((Int.toNat (Go.bits .and .u32 (Go.bits .xor .u32 i_1_5 (bt s1 i_1_14)) 15)) * 1)))) ((bt s1 i_1_14) / 2 ^ 4)) 15)) * 1)))) i_1_13 (i_1_14 + 1) xs_1_k0 v Hf) : at1 x0 s1 i_1_5 i_1_13 i_1_14 xs_1_k0 v Hf := by
  refine Ends.run θok mixed (n := 17) (hs := [.b true])
    (todo' := [.code (nav [1, 1, 0, 1, 0, 0] body), .inLoop (nav [1, 1, 0, 1, 0, 0] body), .inBlock 0, .code (nav [1, 1, 1] body)])
    (T' := [none, some (.string s1), none, none, some (.int .u32 0), some (.int .u32 (Go.bits .xor .u32 ((Go.bits .xor .u32 (i_1_5 / 2 ^ 4) (rd xs_1_k0 (0 + ((Int.toNat (Go.bits .and .u32 (Go.bits .xor .u32 i_1_5 (bt s1 i_1_14)) 15)) * 1)))) / 2 ^ 4) (rd xs_1_k0 (0 + ((Int.toNat (Go.bits .and .u32 (Go.bits .xor .u32 (Go.bits .xor .u32 (i_1_5 / 2 ^ 4) (rd xs_1_k0 (0 + ((Int.toNat (Go.bits .and .u32 (Go.bits .xor .u32 i_1_5 (bt s1 i_1_14)) 15)) * 1)))) ((bt s1 i_1_14) / 2 ^ 4)) 15)) * 1))))), some (.pointer (some ⟨0, 0, none⟩)), some (.int .i64 i_1_14), some (.int .u32 (bt s1 i_1_14)), none, none, none, none, some (.int .i64 i_1_13), some (.int .i64 (i_1_14 + 1)), some (.bool (decide ((i_1_14 : Int) < i_1_13))), some (.int .i64 i_1_14), some (.string s1), some (.int .i64 i_1_14), some (.int .u8 (bt s1 i_1_14)), some (.int .u32 (bt s1 i_1_14)), some (.int .u32 i_1_5), some (.int .u32 (i_1_5 / 2 ^ 4)), some (.int .u32 i_1_5), some (.int .u32 (bt s1 i_1_14)), some (.int .u32 (Go.bits .xor .u32 i_1_5 (bt s1 i_1_14))), some (.int .u32 (Go.bits .and .u32 (Go.bits .xor .u32 i_1_5 (bt s1 i_1_14)) 15)), some (.pointer (some ⟨0, 0 + ((Int.toNat (Go.bits .and .u32 (Go.bits .xor .u32 i_1_5 (bt s1 i_1_14)) 15)) * 1), none⟩)), some (.int .u32 (rd xs_1_k0 (0 + ((Int.toNat (Go.bits .and .u32 (Go.bits .xor .u32 i_1_5 (bt s1 i_1_14)) 15)) * 1)))), some (.int .u32 (Go.bits .xor .u32 (i_1_5 / 2 ^ 4) (rd xs_1_k0 (0 + ((Int.toNat (Go.bits .and .u32 (Go.bits .xor .u32 i_1_5 (bt s1 i_1_14)) 15)) * 1))))), some (.int .u32 (Go.bits .xor .u32 (i_1_5 / 2 ^ 4) (rd xs_1_k0 (0 + ((Int.toNat (Go.bits .and .u32 (Go.bits .xor .u32 i_1_5 (bt s1 i_1_14)) 15)) * 1))))), some (.int .u32 ((Go.bits .xor .u32 (i_1_5 / 2 ^ 4) (rd xs_1_k0 (0 + ((Int.toNat (Go.bits .and .u32 (Go.bits .xor .u32 i_1_5 (bt s1 i_1_14)) 15)) * 1)))) / 2 ^ 4)), some (.int .u32 (Go.bits .xor .u32 (i_1_5 / 2 ^ 4) (rd xs_1_k0 (0 + ((Int.toNat (Go.bits .and .u32 (Go.bits .xor .u32 i_1_5 (bt s1 i_1_14)) 15)) * 1))))), some (.int .u32 (bt s1 i_1_14)), some (.int .u32 ((bt s1 i_1_14) / 2 ^ 4)), some (.int .u32 (Go.bits .xor .u32 (Go.bits .xor .u32 (i_1_5 / 2 ^ 4) (rd xs_1_k0 (0 + ((Int.toNat (Go.bits .and .u32 (Go.bits .xor .u32 i_1_5 (bt s1 i_1_14)) 15)) * 1)))) ((bt s1 i_1_14) / 2 ^ 4))), some (.int .u32 (Go.bits .and .u32 (Go.bits .xor .u32 (Go.bits .xor .u32 (i_1_5 / 2 ^ 4) (rd xs_1_k0 (0 + ((Int.toNat (Go.bits .and .u32 (Go.bits .xor .u32 i_1_5 (bt s1 i_1_14)) 15)) * 1)))) ((bt s1 i_1_14) / 2 ^ 4)) 15)), some (.pointer (some ⟨0, 0 + ((Int.toNat (Go.bits .and .u32 (Go.bits .xor .u32 (Go.bits .xor .u32 (i_1_5 / 2 ^ 4) (rd xs_1_k0 (0 + ((Int.toNat (Go.bits .and .u32 (Go.bits .xor .u32 i_1_5 (bt s1 i_1_14)) 15)) * 1)))) ((bt s1 i_1_14) / 2 ^ 4)) 15)) * 1), none⟩)), some (.int .u32 (rd xs_1_k0 (0 + ((Int.toNat (Go.bits .and .u32 (Go.bits .xor .u32 (Go.bits .xor .u32 (i_1_5 / 2 ^ 4) (rd xs_1_k0 (0 + ((Int.toNat (Go.bits .and .u32 (Go.bits .xor .u32 i_1_5 (bt s1 i_1_14)) 15)) * 1)))) ((bt s1 i_1_14) / 2 ^ 4)) 15)) * 1)))), some (.int .u32 (Go.bits .xor .u32 ((Go.bits .xor .u32 (i_1_5 / 2 ^ 4) (rd xs_1_k0 (0 + ((Int.toNat (Go.bits .and .u32 (Go.bits .xor .u32 i_1_5 (bt s1 i_1_14)) 15)) * 1)))) / 2 ^ 4) (rd xs_1_k0 (0 + ((Int.toNat (Go.bits .and .u32 (Go.bits .xor .u32 (Go.bits .xor .u32 (i_1_5 / 2 ^ 4) (rd xs_1_k0 (0 + ((Int.toNat (Go.bits .and .u32 (Go.bits .xor .u32 i_1_5 (bt s1 i_1_14)) 15)) * 1)))) ((bt s1 i_1_14) / 2 ^ 4)) 15)) * 1))))), some (.int .i64 (i_1_14 + 1)), none, none])
    (H' := [some ⟨true, 38, .ints .u32 xs_1_k0⟩])
    (C := (True ∧ ((True ∧ (True ∧ True)) ∧ (True ∧ (((decide ((i_1_14 : Int) < i_1_13)) = true) ∧ (True ∧ (True ∧ (True ∧ (True ∧ ((True ∧ (True ∧ (True ∧ (True ∧ True)))) ∧ (True ∧ ((True ∧ (True ∧ (True ∧ (True ∧ (True ∧ (((0 : Int) ≤ i_1_14 ∧ i_1_14 < (ByteArray.size s1 : Int)) ∧ (True ∧ (((0 : Int) ≤ bt s1 i_1_14 ∧ (bt s1 i_1_14 : Int) ≤ 4294967295) ∧ (True ∧ (True ∧ True)))))))))) ∧ (True ∧ ((True ∧ (True ∧ (True ∧ (((0 : Int) ≤ 4 ∧ (4 : Int) ≤ (IntKind.bits .u32 : Nat)) ∧ (True ∧ (True ∧ (True ∧ (True ∧ (True ∧ (True ∧ (True ∧ (True ∧ (True ∧ (((0 : Int) ≤ Go.bits .and .u32 (Go.bits .xor .u32 i_1_5 (bt s1 i_1_14)) 15 ∧ (Go.bits .and .u32 (Go.bits .xor .u32 i_1_5 (bt s1 i_1_14)) 15 : Int) < 16) ∧ (True ∧ ((0 + ((Int.toNat (Go.bits .and .u32 (Go.bits .xor .u32 i_1_5 (bt s1 i_1_14)) 15)) * 1) < List.length xs_1_k0) ∧ (True ∧ (True ∧ (True ∧ (True ∧ True)))))))))))))))))))) ∧ ((True ∧ (True ∧ (True ∧ (((0 : Int) ≤ 4 ∧ (4 : Int) ≤ (IntKind.bits .u32 : Nat)) ∧ (True ∧ (True ∧ (True ∧ (True ∧ (True ∧ (((0 : Int) ≤ 4 ∧ (4 : Int) ≤ (IntKind.bits .u32 : Nat)) ∧ (True ∧ (True ∧ (True ∧ (True ∧ (True ∧ (((0 : Int) ≤ Go.bits .and .u32 (Go.bits .xor .u32 (Go.bits .xor .u32 (i_1_5 / 2 ^ 4) (rd xs_1_k0 (0 + ((Int.toNat (Go.bits .and .u32 (Go.bits .xor .u32 i_1_5 (bt s1 i_1_14)) 15)) * 1)))) ((bt s1 i_1_14) / 2 ^ 4)) 15 ∧ (Go.bits .and .u32 (Go.bits .xor .u32 (Go.bits .xor .u32 (i_1_5 / 2 ^ 4) (rd xs_1_k0 (0 + ((Int.toNat (Go.bits .and .u32 (Go.bits .xor .u32 i_1_5 (bt s1 i_1_14)) 15)) * 1)))) ((bt s1 i_1_14) / 2 ^ 4)) 15 : Int) < 16) ∧ (True ∧ ((0 + ((Int.toNat (Go.bits .and .u32 (Go.bits .xor .u32 (Go.bits .xor .u32 (i_1_5 / 2 ^ 4) (rd xs_1_k0 (0 + ((Int.toNat (Go.bits .and .u32 (Go.bits .xor .u32 i_1_5 (bt s1 i_1_14)) 15)) * 1)))) ((bt s1 i_1_14) / 2 ^ 4)) 15)) * 1) < List.length xs_1_k0) ∧ (True ∧ (True ∧ (True ∧ (True ∧ True)))))))))))))))))))))) ∧ (True ∧ ((True ∧ (((-9223372036854775808 : Int) ≤ i_1_14 + 1 ∧ (i_1_14 + 1 : Int) ≤ 9223372036854775807) ∧ (True ∧ (True ∧ True)))) ∧ (True ∧ True))))))))))))))))))
    (by kernel_rfl) ⟨trivial, ⟨⟨trivial, ⟨trivial, trivial⟩⟩, ⟨trivial, ⟨h1, ⟨trivial, ⟨trivial, ⟨trivial, ⟨trivial, ⟨⟨trivial, ⟨trivial, ⟨trivial, ⟨trivial, trivial⟩⟩⟩⟩, ⟨trivial, ⟨⟨trivial, ⟨trivial, ⟨trivial, ⟨trivial, ⟨trivial, ⟨h2, ⟨trivial, ⟨h3, ⟨trivial, ⟨trivial, trivial⟩⟩⟩⟩⟩⟩⟩⟩⟩⟩, ⟨trivial, ⟨⟨trivial, ⟨trivial, ⟨trivial, ⟨(by decide), ⟨trivial, ⟨trivial, ⟨trivial, ⟨trivial, ⟨trivial, ⟨trivial, ⟨trivial, ⟨trivial, ⟨trivial, ⟨h4, ⟨trivial, ⟨h5, ⟨trivial, ⟨trivial, ⟨trivial, ⟨trivial, trivial⟩⟩⟩⟩⟩⟩⟩⟩⟩⟩⟩⟩⟩⟩⟩⟩⟩⟩⟩⟩, ⟨⟨trivial, ⟨trivial, ⟨trivial, ⟨(by decide), ⟨trivial, ⟨trivial, ⟨trivial, ⟨trivial, ⟨trivial, ⟨(by decide), ⟨trivial, ⟨trivial, ⟨trivial, ⟨trivial, ⟨trivial, ⟨h6, ⟨trivial, ⟨h7, ⟨trivial, ⟨trivial, ⟨trivial, ⟨trivial, trivial⟩⟩⟩⟩⟩⟩⟩⟩⟩⟩⟩⟩⟩⟩⟩⟩⟩⟩⟩⟩⟩⟩, ⟨trivial, ⟨⟨trivial, ⟨h8, ⟨trivial, ⟨trivial, trivial⟩⟩⟩⟩, ⟨trivial, trivial⟩⟩⟩⟩⟩⟩⟩⟩⟩⟩⟩⟩⟩⟩⟩⟩⟩ ?_
  refine Ends.rekey (T' := [none, some (.string s1), none, none, some (.int .u32 0), some (.int .u32 (Go.bits .xor .u32 ((Go.bits .xor .u32 (i_1_5 / 2 ^ 4) (rd xs_1_k0 (0 + ((Int.toNat (Go.bits .and .u32 (Go.bits .xor .u32 i_1_5 (bt s1 i_1_14)) 15)) * 1)))) / 2 ^ 4) (rd xs_1_k0 (0 + ((Int.toNat (Go.bits .and .u32 (Go.bits .xor .u32 (Go.bits .xor .u32 (i_1_5 / 2 ^ 4) (rd xs_1_k0 (0 + ((Int.toNat (Go.bits .and .u32 (Go.bits .xor .u32 i_1_5 (bt s1 i_1_14)) 15)) * 1)))) ((bt s1 i_1_14) / 2 ^ 4)) 15)) * 1))))), some (.pointer (some ⟨0, 0, none⟩)), none, none, none, none, none, none, some (.int .i64 i_1_13), some (.int .i64 (i_1_14 + 1)), none, none, none, none, none, none, none, none, none, none, none, none, none, none, none, none, none, none, none, none, none, none, none, none, none, none, none, none]) (H' := [some ⟨true, 38, .ints .u32 xs_1_k0⟩]) [0] ⟨rfl, rfl, Nat.le_of_ble_eq_true rfl⟩ rfl rfl (And.intro rfl (And.intro rfl (And.intro rfl (And.intro rfl (And.intro rfl (And.intro rfl trivial)))))) ?_
  exact hE

theorem s3 {x0 : Int} {s1 : ByteArray} {i_1_5 : Int} {i_1_13 : Int} {i_1_14 : Int} {xs_1_k0 : List Int}  (h1 : (decide ((i_1_14 : Int) < i_1_13)) = false) : at1 x0 s1 i_1_5 i_1_13 i_1_14 xs_1_k0 (.int .u32 (Go.bits .xor .u32 4294967295 i_1_5)) [] := by
  refine Ends.run θok mixed (n := 7) (hs := [.b false])
    (todo' := [.code (nav [1, 1, 1, 1] body)])
    (T' := [none, some (.string s1), none, none, some (.int .u32 (Go.bits .xor .u32 4294967295 i_1_5)), some (.int .u32 i_1_5), some (.pointer (some ⟨0, 0, none⟩)), none, none, none, none, none, none, some (.int .i64 i_1_13), some (.int .i64 i_1_14), some (.bool (decide ((i_1_14 : Int) < i_1_13))), none, none, none, none, none, none, none, none, none, none, none, none, none, none, none, none, none, none, none, none, none, none, none, none, none, some (.int .u32 i_1_5), some (.int .u32 (Go.bits .xor .u32 4294967295 i_1_5))])
    (H' := [some ⟨true, 38, .ints .u32 xs_1_k0⟩])
    (C := (True ∧ ((True ∧ (True ∧ True)) ∧ (True ∧ (((decide ((i_1_14 : Int) < i_1_13)) = false) ∧ (True ∧ (True ∧ ((True ∧ (True ∧ (True ∧ (True ∧ (True ∧ (True ∧ True)))))) ∧ True))))))))
    (by kernel_rfl) ⟨trivial, ⟨⟨trivial, ⟨trivial, trivial⟩⟩, ⟨trivial, ⟨h1, ⟨trivial, ⟨trivial, ⟨⟨trivial, ⟨trivial, ⟨trivial, ⟨trivial, ⟨trivial, ⟨trivial, trivial⟩⟩⟩⟩⟩⟩, trivial⟩⟩⟩⟩⟩⟩⟩ ?_
  refine Ends.rekey (T' := [none, none, none, none, some (.int .u32 (Go.bits .xor .u32 4294967295 i_1_5)), none, none, none, none, none, none, none, none, none, none, none, none, none, none, none, none, none, none, none, none, none, none, none, none, none, none, none, none, none, none, none, none, none, none, none, none, none, none]) (H' := []) [] ⟨rfl, rfl, Nat.le_of_ble_eq_true rfl⟩ rfl rfl (And.intro rfl trivial) ?_
  exact (Ends.ret θok (C := (True ∧ True)) (by kernel_rfl) ⟨trivial, trivial⟩)

end f14

/-! "lockbox/lockboxref03.More" -/
namespace f15

noncomputable def body : Code := (Tryd.f15.body).getD .skip

abbrev H0 (x0 : Int) (s1 : ByteArray) : Heap := []

def at0 (x0 : Int) (s1 : ByteArray)  (v : Value) (Hf : Heap) : Prop :=
  Ends Tryd.prog Tryd.f15 (H0 x0 s1) [.code (nav [] body)] [some (.int .u32 x0), some (.string s1), none, none, none, none, none, none, none, none] [] v Hf

theorem ok {x0 : Int} {s1 : ByteArray} {v : Value} {Hf : Heap} (h : at0 x0 s1 v Hf) : FnOk Tryd.prog 15 [.int .u32 x0, .string s1] [] v Hf :=
  Ends.fnOk Tryd.func15 (c := body) (by kernel_rfl) (by kernel_rfl) (by kernel_rfl) h

theorem s1 {x0 : Int} {s1 : ByteArray}  {r1 : Int} (h1 : Pure Tryd.prog 22 [.int .u32 (wrapE .u32 (4294967295 - x0)), .string s1] (.int .u32 r1)) : at0 x0 s1  (.int .u32 (wrapE .u32 (4294967295 - r1))) [] := by
  refine Ends.run θok mixed (n := 4) (hs := [.call (.int .u32 r1)])
    (todo' := [.code (nav [1, 1] body)])
    (T' := [some (.int .u32 x0), some (.string s1), none, none, some (.int .u32 (wrapE .u32 (4294967295 - r1))), some (.int .u32 x0), some (.int .u32 (wrapE .u32 (4294967295 - x0))), some (.string s1), some (.int .u32 r1), some (.int .u32 (wrapE .u32 (4294967295 - r1)))])
    (H' := [])
    (C := (True ∧ ((True ∧ (True ∧ True)) ∧ (True ∧ ((True ∧ (True ∧ (True ∧ (True ∧ (True ∧ (True ∧ (True ∧ ((FlatL [.int .u32 (wrapE .u32 (4294967295 - x0)), .string s1] ∧ Pure Tryd.prog 22 [.int .u32 (wrapE .u32 (4294967295 - x0)), .string s1] (.int .u32 r1)) ∧ (True ∧ (True ∧ (True ∧ (True ∧ True)))))))))))) ∧ True)))))
    (by kernel_rfl) ⟨trivial, ⟨⟨trivial, ⟨trivial, trivial⟩⟩, ⟨trivial, ⟨⟨trivial, ⟨trivial, ⟨trivial, ⟨trivial, ⟨trivial, ⟨trivial, ⟨trivial, ⟨⟨by simp [FlatL, Flat, Flat2, Flat1, Row.cells], h1⟩, ⟨trivial, ⟨trivial, ⟨trivial, ⟨trivial, trivial⟩⟩⟩⟩⟩⟩⟩⟩⟩⟩⟩⟩, trivial⟩⟩⟩⟩ ?_
  refine Ends.rekey (T' := [none, none, none, none, some (.int .u32 (wrapE .u32 (4294967295 - r1))), none, none, none, none, none]) (H' := []) [] ⟨rfl, rfl, Nat.le_of_ble_eq_true rfl⟩ rfl rfl (And.intro rfl trivial) ?_
  exact (Ends.ret θok (C := (True ∧ True)) (by kernel_rfl) ⟨trivial, trivial⟩)

end f15

/-! "lockbox/crc.Step" -/
namespace f16

noncomputable def body : Code := (Tryd.f16.body).getD .skip

abbrev H0 (x0 : Int) (x1 : Int) : Heap := []

def at0 (x0 : Int) (x1 : Int)  (v : Value) (Hf : Heap) : Prop :=
  Ends Tryd.prog Tryd.f16 (H0 x0 x1) [.code (nav [] body)] [some (.int .u32 x0), some (.int .i64 x1), none, none, none, none, none, none, none, none, none, none, none, none, none, none] [] v Hf

theorem ok {x0 : Int} {x1 : Int} {v : Value} {Hf : Heap} (h : at0 x0 x1 v Hf) : FnOk Tryd.prog 16 [.int .u32 x0, .int .i64 x1] [] v Hf :=
  Ends.fnOk Tryd.func16 (c := body) (by kernel_rfl) (by kernel_rfl) (by kernel_rfl) h

theorem s1 {x0 : Int} {x1 : Int}   (h1 : (decide ((Go.bits .and .u32 (Go.bits .xor .u32 x0 (wrapE .u32 x1)) 1 : Int) = 1)) = true) : at0 x0 x1  (.int .u32 (Go.bits .xor .u32 (x0 / 2 ^ 1) 3988292384)) [] := by
  refine Ends.run θok mixed (n := 8) (hs := [.b true])
    (todo' := [.code (nav [1, 0, 1, 0, 1] body), .code (nav [1, 1] body)])
    (T' := [some (.int .u32 x0), some (.int .i64 x1), none, none, some (.int .u32 (Go.bits .xor .u32 (x0 / 2 ^ 1) 3988292384)), some (.int .u32 x0), some (.int .i64 x1), some (.int .u32 (wrapE .u32 x1)), some (.int .u32 (Go.bits .xor .u32 x0 (wrapE .u32 x1))), some (.int .u32 (Go.bits .and .u32 (Go.bits .xor .u32 x0 (wrapE .u32 x1)) 1)), some (.bool (decide ((Go.bits .and .u32 (Go.bits .xor .u32 x0 (wrapE .u32 x1)) 1 : Int) = 1))), some (.int .u32 x0), some (.int .u32 (x0 / 2 ^ 1)), some (.int .u32 (Go.bits .xor .u32 (x0 / 2 ^ 1) 3988292384)), none, none])
    (H' := [])
    (C := (True ∧ ((True ∧ (True ∧ True)) ∧ (True ∧ (True ∧ ((True ∧ (True ∧ (True ∧ (True ∧ (True ∧ (True ∧ (True ∧ (True ∧ (True ∧ (True ∧ (True ∧ (True ∧ True)))))))))))) ∧ (((decide ((Go.bits .and .u32 (Go.bits .xor .u32 x0 (wrapE .u32 x1)) 1 : Int) = 1)) = true) ∧ (True ∧ ((True ∧ (True ∧ (True ∧ (((0 : Int) ≤ 1 ∧ (1 : Int) ≤ (IntKind.bits .u32 : Nat)) ∧ (True ∧ (True ∧ (True ∧ (True ∧ True)))))))) ∧ True)))))))))
    (by kernel_rfl) ⟨trivial, ⟨⟨trivial, ⟨trivial, trivial⟩⟩, ⟨trivial, ⟨trivial, ⟨⟨trivial, ⟨trivial, ⟨trivial, ⟨trivial, ⟨trivial, ⟨trivial, ⟨trivial, ⟨trivial, ⟨trivial, ⟨trivial, ⟨trivial, ⟨trivial, trivial⟩⟩⟩⟩⟩⟩⟩⟩⟩⟩⟩⟩, ⟨h1, ⟨trivial, ⟨⟨trivial, ⟨trivial, ⟨trivial, ⟨(by decide), ⟨trivial, ⟨trivial, ⟨trivial, ⟨trivial, trivial⟩⟩⟩⟩⟩⟩⟩⟩, trivial⟩⟩⟩⟩⟩⟩⟩⟩ ?_
  refine Ends.rekey (T' := [none, none, none, none, some (.int .u32 (Go.bits .xor .u32 (x0 / 2 ^ 1) 3988292384)), none, none, none, none, none, none, none, none, none, none, none]) (H' := []) [] ⟨rfl, rfl, Nat.le_of_ble_eq_true rfl⟩ rfl rfl (And.intro rfl trivial) ?_
  exact (Ends.ret θok (C := (True ∧ True)) (by kernel_rfl) ⟨trivial, trivial⟩)

theorem s2 {x0 : Int} {x1 : Int}   (h1 : (decide ((Go.bits .and .u32 (Go.bits .xor .u32 x0 (wrapE .u32 x1)) 1 : Int) = 1)) = false) : at0 x0 x1  (.int .u32 (x0 / 2 ^ 1)) [] := by
  refine Ends.run θok mixed (n := 9) (hs := [.b false])
    (todo' := [.code (nav [1, 1, 1] body)])
    (T' := [some (.int .u32 x0), some (.int .i64 x1), none, none, some (.int .u32 (x0 / 2 ^ 1)), some (.int .u32 x0), some (.int .i64 x1), some (.int .u32 (wrapE .u32 x1)), some (.int .u32 (Go.bits .xor .u32 x0 (wrapE .u32 x1))), some (.int .u32 (Go.bits .and .u32 (Go.bits .xor .u32 x0 (wrapE .u32 x1)) 1)), some (.bool (decide ((Go.bits .and .u32 (Go.bits .xor .u32 x0 (wrapE .u32 x1)) 1 : Int) = 1))), none, none, none, some (.int .u32 x0), some (.int .u32 (x0 / 2 ^ 1))])
    (H' := [])
    (C := (True ∧ ((True ∧ (True ∧ True)) ∧ (True ∧ (True ∧ ((True ∧ (True ∧ (True ∧ (True ∧ (True ∧ (True ∧ (True ∧ (True ∧ (True ∧ (True ∧ (True ∧ (True ∧ True)))))))))))) ∧ (((decide ((Go.bits .and .u32 (Go.bits .xor .u32 x0 (wrapE .u32 x1)) 1 : Int) = 1)) = false) ∧ (True ∧ (True ∧ ((True ∧ (True ∧ (True ∧ (((0 : Int) ≤ 1 ∧ (1 : Int) ≤ (IntKind.bits .u32 : Nat)) ∧ (True ∧ (True ∧ True)))))) ∧ True))))))))))
    (by kernel_rfl) ⟨trivial, ⟨⟨trivial, ⟨trivial, trivial⟩⟩, ⟨trivial, ⟨trivial, ⟨⟨trivial, ⟨trivial, ⟨trivial, ⟨trivial, ⟨trivial, ⟨trivial, ⟨trivial, ⟨trivial, ⟨trivial, ⟨trivial, ⟨trivial, ⟨trivial, trivial⟩⟩⟩⟩⟩⟩⟩⟩⟩⟩⟩⟩, ⟨h1, ⟨trivial, ⟨trivial, ⟨⟨trivial, ⟨trivial, ⟨trivial, ⟨(by decide), ⟨trivial, ⟨trivial, trivial⟩⟩⟩⟩⟩⟩, trivial⟩⟩⟩⟩⟩⟩⟩⟩⟩ ?_
  refine Ends.rekey (T' := [none, none, none, none, some (.int .u32 (x0 / 2 ^ 1)), none, none, none, none, none, none, none, none, none, none, none]) (H' := []) [] ⟨rfl, rfl, Nat.le_of_ble_eq_true rfl⟩ rfl rfl (And.intro rfl trivial) ?_
  exact (Ends.ret θok (C := (True ∧ True)) (by kernel_rfl) ⟨trivial, trivial⟩)

end f16

/-! "lockbox/lockboxref03.Step" -/
namespace f17

noncomputable def body : Code := (Tryd.f17.body).getD .skip

abbrev H0 (x0 : Int) (x1 : Int) : Heap := []

def at0 (x0 : Int) (x1 : Int)  (v : Value) (Hf : Heap) : Prop :=
  Ends Tryd.prog Tryd.f17 (H0 x0 x1) [.code (nav [] body)] [some (.int .u32 x0), some (.int .i64 x1), none, none, none, none, none, none, none, none, none, none, none, none, none, none, none, none] [] v Hf

theorem ok {x0 : Int} {x1 : Int} {v : Value} {Hf : Heap} (h : at0 x0 x1 v Hf) : FnOk Tryd.prog 17 [.int .u32 x0, .int .i64 x1] [] v Hf :=
  Ends.fnOk Tryd.func17 (c := body) (by kernel_rfl) (by kernel_rfl) (by kernel_rfl) h

theorem s1 {x0 : Int} {x1 : Int}   (h1 : (!decide ((Int.tmod x1 2 : Int) = 0)) = true) (h2 : (0 : Int) ≤ x0 ∧ (0 : Int) < 2) (h3 : (!decide ((x0 % 2 : Int) = 1)) = true) (h4 : (0 : Int) ≤ x0 ∧ (0 : Int) < 2 ∧ (x0 : Int) ≤ 4294967295) : at0 x0 x1  (.int .u32 (Go.bits .xor .u32 (x0 / 2) 3988292384)) [] := by
  refine Ends.run θok mixed (n := 15) (hs := [.b false, .b true, .b true, .b true, .b true])
    (todo' := [.code (nav [1, 1, 1, 0, 1, 0, 1] body), .code (nav [1, 1, 1, 1] body)])
    (T' := [some (.int .u32 x0), some (.int .i64 x1), none, none, some (.int .u32 (Go.bits .xor .u32 (x0 / 2) 3988292384)), some (.int .u32 1), some (.int .i64 x1), some (.int .i64 (Int.tmod x1 2)), some (.bool (!decide ((Int.tmod x1 2 : Int) = 0))), some (.int .u32 x0), some (.int .u32 (x0 % 2)), some (.int .u32 1), some (.bool (!decide ((x0 % 2 : Int) = 1))), some (.int .u32 x0), some (.int .u32 (x0 / 2)), some (.int .u32 (Go.bits .xor .u32 (x0 / 2) 3988292384)), none, none])
    (H' := [])
    (C := (True ∧ ((True ∧ (True ∧ True)) ∧ (True ∧ ((True ∧ (True ∧ True)) ∧ (True ∧ (True ∧ ((True ∧ (True ∧ (True ∧ (((2 : Int) ≠ 0) ∧ (True ∧ (True ∧ True)))))) ∧ (((!decide ((Int.tmod x1 2 : Int) = 0)) = true) ∧ ((True ∧ (True ∧ True)) ∧ (True ∧ (True ∧ ((True ∧ (True ∧ (True ∧ (((0 : Int) ≤ x0 ∧ (0 : Int) < 2) ∧ (True ∧ (True ∧ (True ∧ (True ∧ True)))))))) ∧ (((!decide ((x0 % 2 : Int) = 1)) = true) ∧ (True ∧ ((True ∧ (True ∧ (True ∧ (((0 : Int) ≤ x0 ∧ (0 : Int) < 2 ∧ (x0 : Int) ≤ 4294967295) ∧ (True ∧ (True ∧ (True ∧ (True ∧ True)))))))) ∧ True))))))))))))))))
    (by kernel_rfl) ⟨trivial, ⟨⟨trivial, ⟨trivial, trivial⟩⟩, ⟨trivial, ⟨⟨trivial, ⟨trivial, trivial⟩⟩, ⟨trivial, ⟨trivial, ⟨⟨trivial, ⟨trivial, ⟨trivial, ⟨(by decide), ⟨trivial, ⟨trivial, trivial⟩⟩⟩⟩⟩⟩, ⟨h1, ⟨⟨trivial, ⟨trivial, trivial⟩⟩, ⟨trivial, ⟨trivial, ⟨⟨trivial, ⟨trivial, ⟨trivial, ⟨h2, ⟨trivial, ⟨trivial, ⟨trivial, ⟨trivial, trivial⟩⟩⟩⟩⟩⟩⟩⟩, ⟨h3, ⟨trivial, ⟨⟨trivial, ⟨trivial, ⟨trivial, ⟨h4, ⟨trivial, ⟨trivial, ⟨trivial, ⟨trivial, trivial⟩⟩⟩⟩⟩⟩⟩⟩, trivial⟩⟩⟩⟩⟩⟩⟩⟩⟩⟩⟩⟩⟩⟩⟩ ?_
  refine Ends.rekey (T' := [none, none, none, none, some (.int .u32 (Go.bits .xor .u32 (x0 / 2) 3988292384)), none, none, none, none, none, none, none, none, none, none, none, none, none]) (H' := []) [] ⟨rfl, rfl, Nat.le_of_ble_eq_true rfl⟩ rfl rfl (And.intro rfl trivial) ?_
  exact (Ends.ret θok (C := (True ∧ True)) (by kernel_rfl) ⟨trivial, trivial⟩)

theorem s2 {x0 : Int} {x1 : Int}   (h1 : (!decide ((Int.tmod x1 2 : Int) = 0)) = false) (h2 : (0 : Int) ≤ x0 ∧ (0 : Int) < 2) (h3 : (!decide ((x0 % 2 : Int) = 0)) = true) (h4 : (0 : Int) ≤ x0 ∧ (0 : Int) < 2 ∧ (x0 : Int) ≤ 4294967295) : at0 x0 x1  (.int .u32 (Go.bits .xor .u32 (x0 / 2) 3988292384)) [] := by
  refine Ends.run θok mixed (n := 15) (hs := [.b false, .b false, .b true, .b true, .b true])
    (todo' := [.code (nav [1, 1, 1, 0, 1, 0, 1] body), .code (nav [1, 1, 1, 1] body)])
    (T' := [some (.int .u32 x0), some (.int .i64 x1), none, none, some (.int .u32 (Go.bits .xor .u32 (x0 / 2) 3988292384)), some (.int .u32 0), some (.int .i64 x1), some (.int .i64 (Int.tmod x1 2)), some (.bool (!decide ((Int.tmod x1 2 : Int) = 0))), some (.int .u32 x0), some (.int .u32 (x0 % 2)), some (.int .u32 0), some (.bool (!decide ((x0 % 2 : Int) = 0))), some (.int .u32 x0), some (.int .u32 (x0 / 2)), some (.int .u32 (Go.bits .xor .u32 (x0 / 2) 3988292384)), none, none])
    (H' := [])
    (C := (True ∧ ((True ∧ (True ∧ True)) ∧ (True ∧ ((True ∧ (True ∧ True)) ∧ (True ∧ (True ∧ ((True ∧ (True ∧ (True ∧ (((2 : Int) ≠ 0) ∧ (True ∧ (True ∧ True)))))) ∧ (((!decide ((Int.tmod x1 2 : Int) = 0)) = false) ∧ (True ∧ (True ∧ (True ∧ ((True ∧ (True ∧ (True ∧ (((0 : Int) ≤ x0 ∧ (0 : Int) < 2) ∧ (True ∧ (True ∧ (True ∧ (True ∧ True)))))))) ∧ (((!decide ((x0 % 2 : Int) = 0)) = true) ∧ (True ∧ ((True ∧ (True ∧ (True ∧ (((0 : Int) ≤ x0 ∧ (0 : Int) < 2 ∧ (x0 : Int) ≤ 4294967295) ∧ (True ∧ (True ∧ (True ∧ (True ∧ True)))))))) ∧ True))))))))))))))))
    (by kernel_rfl) ⟨trivial, ⟨⟨trivial, ⟨trivial, trivial⟩⟩, ⟨trivial, ⟨⟨trivial, ⟨trivial, trivial⟩⟩, ⟨trivial, ⟨trivial, ⟨⟨trivial, ⟨trivial, ⟨trivial, ⟨(by decide), ⟨trivial, ⟨trivial, trivial⟩⟩⟩⟩⟩⟩, ⟨h1, ⟨trivial, ⟨trivial, ⟨trivial, ⟨⟨trivial, ⟨trivial, ⟨trivial, ⟨h2, ⟨trivial, ⟨trivial, ⟨trivial, ⟨trivial, trivial⟩⟩⟩⟩⟩⟩⟩⟩, ⟨h3, ⟨trivial, ⟨⟨trivial, ⟨trivial, ⟨trivial, ⟨h4, ⟨trivial, ⟨trivial, ⟨trivial, ⟨trivial, trivial⟩⟩⟩⟩⟩⟩⟩⟩, trivial⟩⟩⟩⟩⟩⟩⟩⟩⟩⟩⟩⟩⟩⟩⟩ ?_
  refine Ends.rekey (T' := [none, none, none, none, some (.int .u32 (Go.bits .xor .u32 (x0 / 2) 3988292384)), none, none, none, none, none, none, none, none, none, none, none, none, none]) (H' := []) [] ⟨rfl, rfl, Nat.le_of_ble_eq_true rfl⟩ rfl rfl (And.intro rfl trivial) ?_
  exact (Ends.ret θok (C := (True ∧ True)) (by kernel_rfl) ⟨trivial, trivial⟩)

theorem s3 {x0 : Int} {x1 : Int}   (h1 : (!decide ((Int.tmod x1 2 : Int) = 0)) = true) (h2 : (0 : Int) ≤ x0 ∧ (0 : Int) < 2) (h3 : (!decide ((x0 % 2 : Int) = 1)) = false) (h4 : (0 : Int) ≤ x0 ∧ (0 : Int) < 2 ∧ (x0 : Int) ≤ 4294967295) : at0 x0 x1  (.int .u32 (x0 / 2)) [] := by
  refine Ends.run θok mixed (n := 16) (hs := [.b false, .b true, .b true, .b false, .b true])
    (todo' := [.code (nav [1, 1, 1, 1, 1] body)])
    (T' := [some (.int .u32 x0), some (.int .i64 x1), none, none, some (.int .u32 (x0 / 2)), some (.int .u32 1), some (.int .i64 x1), some (.int .i64 (Int.tmod x1 2)), some (.bool (!decide ((Int.tmod x1 2 : Int) = 0))), some (.int .u32 x0), some (.int .u32 (x0 % 2)), some (.int .u32 1), some (.bool (!decide ((x0 % 2 : Int) = 1))), none, none, none, some (.int .u32 x0), some (.int .u32 (x0 / 2))])
    (H' := [])
    (C := (True ∧ ((True ∧ (True ∧ True)) ∧ (True ∧ ((True ∧ (True ∧ True)) ∧ (True ∧ (True ∧ ((True ∧ (True ∧ (True ∧ (((2 : Int) ≠ 0) ∧ (True ∧ (True ∧ True)))))) ∧ (((!decide ((Int.tmod x1 2 : Int) = 0)) = true) ∧ ((True ∧ (True ∧ True)) ∧ (True ∧ (True ∧ ((True ∧ (True ∧ (True ∧ (((0 : Int) ≤ x0 ∧ (0 : Int) < 2) ∧ (True ∧ (True ∧ (True ∧ (True ∧ True)))))))) ∧ (((!decide ((x0 % 2 : Int) = 1)) = false) ∧ (True ∧ (True ∧ ((True ∧ (True ∧ (True ∧ (((0 : Int) ≤ x0 ∧ (0 : Int) < 2 ∧ (x0 : Int) ≤ 4294967295) ∧ (True ∧ (True ∧ True)))))) ∧ True)))))))))))))))))
    (by kernel_rfl) ⟨trivial, ⟨⟨trivial, ⟨trivial, trivial⟩⟩, ⟨trivial, ⟨⟨trivial, ⟨trivial, trivial⟩⟩, ⟨trivial, ⟨trivial, ⟨⟨trivial, ⟨trivial, ⟨trivial, ⟨(by decide), ⟨trivial, ⟨trivial, trivial⟩⟩⟩⟩⟩⟩, ⟨h1, ⟨⟨trivial, ⟨trivial, trivial⟩⟩, ⟨trivial, ⟨trivial, ⟨⟨trivial, ⟨trivial, ⟨trivial, ⟨h2, ⟨trivial, ⟨trivial, ⟨trivial, ⟨trivial, trivial⟩⟩⟩⟩⟩⟩⟩⟩, ⟨h3, ⟨trivial, ⟨trivial, ⟨⟨trivial, ⟨trivial, ⟨trivial, ⟨h4, ⟨trivial, ⟨trivial, trivial⟩⟩⟩⟩⟩⟩, trivial⟩⟩⟩⟩⟩⟩⟩⟩⟩⟩⟩⟩⟩⟩⟩⟩ ?_
  refine Ends.rekey (T' := [none, none, none, none, some (.int .u32 (x0 / 2)), none, none, none, none, none, none, none, none, none, none, none, none, none]) (H' := []) [] ⟨rfl, rfl, Nat.le_of_ble_eq_true rfl⟩ rfl rfl (And.intro rfl trivial) ?_
  exact (Ends.ret θok (C := (True ∧ True)) (by kernel_rfl) ⟨trivial, trivial⟩)

theorem s4 {x0 : Int} {x1 : Int}   (h1 : (!decide ((Int.tmod x1 2 : Int) = 0)) = false) (h2 : (0 : Int) ≤ x0 ∧ (0 : Int) < 2) (h3 : (!decide ((x0 % 2 : Int) = 0)) = false) (h4 : (0 : Int) ≤ x0 ∧ (0 : Int) < 2 ∧ (x0 : Int) ≤ 4294967295) : at0 x0 x1  (.int .u32 (x0 / 2)) [] := by
  refine Ends.run θok mixed (n := 16) (hs := [.b false, .b false, .b true, .b false, .b true])
    (todo' := [.code (nav [1, 1, 1, 1, 1] body)])
    (T' := [some (.int .u32 x0), some (.int .i64 x1), none, none, some (.int .u32 (x0 / 2)), some (.int .u32 0), some (.int .i64 x1), some (.int .i64 (Int.tmod x1 2)), some (.bool (!decide ((Int.tmod x1 2 : Int) = 0))), some (.int .u32 x0), some (.int .u32 (x0 % 2)), some (.int .u32 0), some (.bool (!decide ((x0 % 2 : Int) = 0))), none, none, none, some (.int .u32 x0), some (.int .u32 (x0 / 2))])
    (H' := [])
    (C := (True ∧ ((True ∧ (True ∧ True)) ∧ (True ∧ ((True ∧ (True ∧ True)) ∧ (True ∧ (True ∧ ((True ∧ (True ∧ (True ∧ (((2 : Int) ≠ 0) ∧ (True ∧ (True ∧ True)))))) ∧ (((!decide ((Int.tmod x1 2 : Int) = 0)) = false) ∧ (True ∧ (True ∧ (True ∧ ((True ∧ (True ∧ (True ∧ (((0 : Int) ≤ x0 ∧ (0 : Int) < 2) ∧ (True ∧ (True ∧ (True ∧ (True ∧ True)))))))) ∧ (((!decide ((x0 % 2 : Int) = 0)) = false) ∧ (True ∧ (True ∧ ((True ∧ (True ∧ (True ∧ (((0 : Int) ≤ x0 ∧ (0 : Int) < 2 ∧ (x0 : Int) ≤ 4294967295) ∧ (True ∧ (True ∧ True)))))) ∧ True)))))))))))))))))
    (by kernel_rfl) ⟨trivial, ⟨⟨trivial, ⟨trivial, trivial⟩⟩, ⟨trivial, ⟨⟨trivial, ⟨trivial, trivial⟩⟩, ⟨trivial, ⟨trivial, ⟨⟨trivial, ⟨trivial, ⟨trivial, ⟨(by decide), ⟨trivial, ⟨trivial, trivial⟩⟩⟩⟩⟩⟩, ⟨h1, ⟨trivial, ⟨trivial, ⟨trivial, ⟨⟨trivial, ⟨trivial, ⟨trivial, ⟨h2, ⟨trivial, ⟨trivial, ⟨trivial, ⟨trivial, trivial⟩⟩⟩⟩⟩⟩⟩⟩, ⟨h3, ⟨trivial, ⟨trivial, ⟨⟨trivial, ⟨trivial, ⟨trivial, ⟨h4, ⟨trivial, ⟨trivial, trivial⟩⟩⟩⟩⟩⟩, trivial⟩⟩⟩⟩⟩⟩⟩⟩⟩⟩⟩⟩⟩⟩⟩⟩ ?_
  refine Ends.rekey (T' := [none, none, none, none, some (.int .u32 (x0 / 2)), none, none, none, none, none, none, none, none, none, none, none, none, none]) (H' := []) [] ⟨rfl, rfl, Nat.le_of_ble_eq_true rfl⟩ rfl rfl (And.intro rfl trivial) ?_
  exact (Ends.ret θok (C := (True ∧ True)) (by kernel_rfl) ⟨trivial, trivial⟩)

end f17

/-! "lockbox/lockboxref03.Zeros" -/
namespace f19

noncomputable def body : Code := (Tryd.f19.body).getD .skip

abbrev H0 (x0 : Int) (x1 : Int) : Heap := []

def at0 (x0 : Int) (x1 : Int)  (v : Value) (Hf : Heap) : Prop :=
  Ends Tryd.prog Tryd.f19 (H0 x0 x1) [.code (nav [] body)] [some (.int .u32 x0), some (.int .i64 x1), none, none, none, none, none, none, none, none, none, none, none, none] [] v Hf

def at1 (x0 : Int) (x1 : Int) (i_1_0 : Int) (i_1_5 : Int) (v : Value) (Hf : Heap) : Prop :=
  Ends Tryd.prog Tryd.f19 (H0 x0 x1) [.code (nav [1, 0, 1, 0, 0] body), .inLoop (nav [1, 0, 1, 0, 0] body), .inBlock 0, .code (nav [1, 1] body)] [some (.int .u32 i_1_0), some (.int .i64 x1), none, none, some (.int .u32 0), some (.int .i64 i_1_5), none, none, none, none, none, none, none, none] [] v Hf

theorem ok {x0 : Int} {x1 : Int} {v : Value} {Hf : Heap} (h : at0 x0 x1 v Hf) : FnOk Tryd.prog 19 [.int .u32 x0, .int .i64 x1] [] v Hf :=
  Ends.fnOk Tryd.func19 (c := body) (by kernel_rfl) (by kernel_rfl) (by kernel_rfl) h

theorem s1 {x0 : Int} {x1 : Int}    {v : Value} {Hf : Heap} (hE : at1 x0 x1 x0 0 v Hf) : at0 x0 x1  v Hf := by
  refine Ends.run θok mixed (n := 7) (hs := [])
    (todo' := [.code (nav [1, 0, 1, 0, 0] body), .inLoop (nav [1, 0, 1, 0, 0] body), .inBlock 0, .code (nav [1, 1] body)])
    (T' := [some (.int .u32 x0), some (.int .i64 x1), none, none, some (.int .u32 0), some (.int .i64 0), none, none, none, none, none, none, none, none])
    (H' := [])
    (C := (True ∧ ((True ∧ (True ∧ True)) ∧ (True ∧ (True ∧ ((True ∧ (True ∧ True)) ∧ (True ∧ (True ∧ True))))))))
    (by kernel_rfl) ⟨trivial, ⟨⟨trivial, ⟨trivial, trivial⟩⟩, ⟨trivial, ⟨trivial, ⟨⟨trivial, ⟨trivial, trivial⟩⟩, ⟨trivial, ⟨trivial, trivial⟩⟩⟩⟩⟩⟩⟩ ?_
  refine Ends.rekey (T' := [some (.int .u32 x0), some (.int .i64 x1), none, none, some (.int .u32 0), some (.int .i64 0), none, none, none, none, none, none, none, none]) (H' := []) [] ⟨rfl, rfl, Nat.le_of_ble_eq_true rfl⟩ rfl rfl (And.intro rfl (And.intro rfl (And.intro rfl (And.intro rfl trivial)))) ?_
  exact hE

theorem s2 {x0 : Int} {x1 : Int} {i_1_0 : Int} {i_1_5 : Int} {r1 : Int} (h1 : (decide ((i_1_5 : Int) < x1)) = true) (h2 : Pure Tryd.prog 15 [.int .u32 i_1_0, .string (⟨#[0]⟩)] (.int .u32 r1)) (h3 : (-9223372036854775808 : Int) ≤ i_1_5 + 1 ∧ (i_1_5 + 1 : Int) ≤ 9223372036854775807) {v : Value} {Hf : Heap} (hE : at1 x0 x1 r1 (i_1_5 + 1) v Hf) : at1 x0 x1 i_1_0 i_1_5 v Hf := by
  refine Ends.run θok mixed (n := 11) (hs := [.b true, .call (.int .u32 r1)])
    (todo' := [.code (nav [1, 0, 1, 0, 0] body), .inLoop (nav [1, 0, 1, 0, 0] body), .inBlock 0, .code (nav [1, 1] body)])
    (T' := [some (.int .u32 r1), some (.int .i64 x1), none, none, some (.int .u32 0), some (.int .i64 (i_1_5 + 1)), some (.int .i64 i_1_5), some (.int .i64 x1), some (.bool (decide ((i_1_5 : Int) < x1))), some (.int .i64 i_1_5), some (.int .i64 (i_1_5 + 1)), some (.int .u32 i_1_0), some (.int .u32 r1), none])
    (H' := [])
    (C := (True ∧ (True ∧ ((True ∧ (True ∧ (True ∧ (True ∧ (True ∧ (True ∧ True)))))) ∧ (((decide ((i_1_5 : Int) < x1)) = true) ∧ (True ∧ (True ∧ (True ∧ ((True ∧ (True ∧ (True ∧ ((FlatL [.int .u32 i_1_0, .string (⟨#[0]⟩)] ∧ Pure Tryd.prog 15 [.int .u32 i_1_0, .string (⟨#[0]⟩)] (.int .u32 r1)) ∧ (True ∧ (True ∧ True)))))) ∧ (True ∧ ((True ∧ (True ∧ (True ∧ (((-9223372036854775808 : Int) ≤ i_1_5 + 1 ∧ (i_1_5 + 1 : Int) ≤ 9223372036854775807) ∧ (True ∧ (True ∧ True)))))) ∧ (True ∧ True))))))))))))
    (by kernel_rfl) ⟨trivial, ⟨trivial, ⟨⟨trivial, ⟨trivial, ⟨trivial, ⟨trivial, ⟨trivial, ⟨trivial, trivial⟩⟩⟩⟩⟩⟩, ⟨h1, ⟨trivial, ⟨trivial, ⟨trivial, ⟨⟨trivial, ⟨trivial, ⟨trivial, ⟨⟨by simp [FlatL, Flat, Flat2, Flat1, Row.cells], h2⟩, ⟨trivial, ⟨trivial, trivial⟩⟩⟩⟩⟩⟩, ⟨trivial, ⟨⟨trivial, ⟨trivial, ⟨trivial, ⟨h3, ⟨trivial, ⟨trivial, trivial⟩⟩⟩⟩⟩⟩, ⟨trivial, trivial⟩⟩⟩⟩⟩⟩⟩⟩⟩⟩⟩ ?_
  refine Ends.rekey (T' := [some (.int .u32 r1), some (.int .i64 x1), none, none, some (.int .u32 0), some (.int .i64 (i_1_5 + 1)), none, none, none, none, none, none, none, none]) (H' := []) [] ⟨rfl, rfl, Nat.le_of_ble_eq_true rfl⟩ rfl rfl (And.intro rfl (And.intro rfl (And.intro rfl (And.intro rfl trivial)))) ?_
  exact hE

theorem s3 {x0 : Int} {x1 : Int} {i_1_0 : Int} {i_1_5 : Int}  (h1 : (decide ((i_1_5 : Int) < x1)) = false) : at1 x0 x1 i_1_0 i_1_5 (.int .u32 i_1_0) [] := by
  refine Ends.run θok mixed (n := 7) (hs := [.b false])
    (todo' := [.code (nav [1, 1, 1] body)])
    (T' := [some (.int .u32 i_1_0), some (.int .i64 x1), none, none, some (.int .u32 i_1_0), some (.int .i64 i_1_5), some (.int .i64 i_1_5), some (.int .i64 x1), some (.bool (decide ((i_1_5 : Int) < x1))), none, none, none, none, some (.int .u32 i_1_0)])
    (H' := [])
    (C := (True ∧ (True ∧ ((True ∧ (True ∧ (True ∧ (True ∧ (True ∧ (True ∧ True)))))) ∧ (((decide ((i_1_5 : Int) < x1)) = false) ∧ (True ∧ (True ∧ ((True ∧ (True ∧ (True ∧ (True ∧ True)))) ∧ True))))))))
    (by kernel_rfl) ⟨trivial, ⟨trivial, ⟨⟨trivial, ⟨trivial, ⟨trivial, ⟨trivial, ⟨trivial, ⟨trivial, trivial⟩⟩⟩⟩⟩⟩, ⟨h1, ⟨trivial, ⟨trivial, ⟨⟨trivial, ⟨trivial, ⟨trivial, ⟨trivial, trivial⟩⟩⟩⟩, trivial⟩⟩⟩⟩⟩⟩⟩ ?_
  refine Ends.rekey (T' := [none, none, none, none, some (.int .u32 i_1_0), none, none, none, none, none, none, none, none, none]) (H' := []) [] ⟨rfl, rfl, Nat.le_of_ble_eq_true rfl⟩ rfl rfl (And.intro rfl trivial) ?_
  exact (Ends.ret θok (C := (True ∧ True)) (by kernel_rfl) ⟨trivial, trivial⟩)

end f19

/-! "lockbox/crc.halves" -/
namespace f21

noncomputable def body : Code := (Tryd.f21.body).getD .skip

abbrev H0  : Heap := []

def at0   (v : Value) (Hf : Heap) : Prop :=
  Ends Tryd.prog Tryd.f21 (H0 ) [.code (nav [] body)] [none, none] [] v Hf

theorem ok  {v : Value} {Hf : Heap} (h : at0  v Hf) : FnOk Tryd.prog 21 [] [] v Hf :=
  Ends.fnOk Tryd.func21 (c := body) (by kernel_rfl) (by kernel_rfl) (by kernel_rfl) h

theorem s1    (h1 : Row.len (.ints .u32 ([0, 498536548, 997073096, 651767980, 1994146192, 1802195444, 1303535960, 1342533948, 3988292384, 4027552580, 3604390888, 3412177804, 2607071920, 2262029012, 2685067896, 3183342108])) = Row.len (.ints .u32 (List.replicate 16 (0 : Int)))) (h2 : 0 = 0 ∧ Row.len (.ints .u32 ([0, 498536548, 997073096, 651767980, 1994146192, 1802195444, 1303535960, 1342533948, 3988292384, 4027552580, 3604390888, 3412177804, 2607071920, 2262029012, 2685067896, 3183342108])) = 16) : at0   (.agg (Row.cells (.ints .u32 ([0, 498536548, 997073096, 651767980, 1994146192, 1802195444, 1303535960, 1342533948, 3988292384, 4027552580, 3604390888, 3412177804, 2607071920, 2262029012, 2685067896, 3183342108]))).toArray) [] := by
  refine Ends.run θok mixed (n := 4) (hs := [.call (.agg #[.int .u32 0, .int .u32 498536548, .int .u32 997073096, .int .u32 651767980, .int .u32 1994146192, .int .u32 1802195444, .int .u32 1303535960, .int .u32 1342533948, .int .u32 3988292384, .int .u32 4027552580, .int .u32 3604390888, .int .u32 3412177804, .int .u32 2607071920, .int .u32 2262029012, .int .u32 2685067896, .int .u32 3183342108]), .row (.ints .u32 ([0, 498536548, 997073096, 651767980, 1994146192, 1802195444, 1303535960, 1342533948, 3988292384, 4027552580, 3604390888, 3412177804, 2607071920, 2262029012, 2685067896, 3183342108]))])
    (todo' := [.code (nav [1, 1] body)])
    (T' := [some (.pointer (some ⟨0, 0, none⟩)), some (.agg #[.int .u32 0, .int .u32 498536548, .int .u32 997073096, .int .u32 651767980, .int .u32 1994146192, .int .u32 1802195444, .int .u32 1303535960, .int .u32 1342533948, .int .u32 3988292384, .int .u32 4027552580, .int .u32 3604390888, .int .u32 3412177804, .int .u32 2607071920, .int .u32 2262029012, .int .u32 2685067896, .int .u32 3183342108])])
    (H' := [some ⟨true, 38, .ints .u32 ([0, 498536548, 997073096, 651767980, 1994146192, 1802195444, 1303535960, 1342533948, 3988292384, 4027552580, 3604390888, 3412177804, 2607071920, 2262029012, 2685067896, 3183342108])⟩])
    (C := (True ∧ ((True ∧ (True ∧ True)) ∧ (True ∧ ((True ∧ ((FlatL [.int .u32 0, .int .u32 498536548, .int .u32 997073096, .int .u32 651767980, .int .u32 1994146192, .int .u32 1802195444, .int .u32 1303535960, .int .u32 1342533948, .int .u32 3988292384, .int .u32 4027552580, .int .u32 3604390888, .int .u32 3412177804, .int .u32 2607071920, .int .u32 2262029012, .int .u32 2685067896, .int .u32 3183342108] ∧ Flat (.agg #[.int .u32 0, .int .u32 498536548, .int .u32 997073096, .int .u32 651767980, .int .u32 1994146192, .int .u32 1802195444, .int .u32 1303535960, .int .u32 1342533948, .int .u32 3988292384, .int .u32 4027552580, .int .u32 3604390888, .int .u32 3412177804, .int .u32 2607071920, .int .u32 2262029012, .int .u32 2685067896, .int .u32 3183342108]) ∧ ∀ w, (Instr.build 38 #[(0, (.int .u32 0 : Value)), (1, (.int .u32 498536548 : Value)), (2, (.int .u32 997073096 : Value)), (3, (.int .u32 651767980 : Value)), (4, (.int .u32 1994146192 : Value)), (5, (.int .u32 1802195444 : Value)), (6, (.int .u32 1303535960 : Value)), (7, (.int .u32 1342533948 : Value)), (8, (.int .u32 3988292384 : Value)), (9, (.int .u32 4027552580 : Value)), (10, (.int .u32 3604390888 : Value)), (11, (.int .u32 3412177804 : Value)), (12, (.int .u32 2607071920 : Value)), (13, (.int .u32 2262029012 : Value)), (14, (.int .u32 2685067896 : Value)), (15, (.int .u32 3183342108 : Value))]).run Tryd.prog w = .ok (.agg #[.int .u32 0, .int .u32 498536548, .int .u32 997073096, .int .u32 651767980, .int .u32 1994146192, .int .u32 1802195444, .int .u32 1303535960, .int .u32 1342533948, .int .u32 3988292384, .int .u32 4027552580, .int .u32 3604390888, .int .u32 3412177804, .int .u32 2607071920, .int .u32 2262029012, .int .u32 2685067896, .int .u32 3183342108]) w) ∧ (True ∧ ((((Row.cells (.ints .u32 ([0, 498536548, 997073096, 651767980, 1994146192, 1802195444, 1303535960, 1342533948, 3988292384, 4027552580, 3604390888, 3412177804, 2607071920, 2262029012, 2685067896, 3183342108])) = Array.toList #[.int .u32 0, .int .u32 498536548, .int .u32 997073096, .int .u32 651767980, .int .u32 1994146192, .int .u32 1802195444, .int .u32 1303535960, .int .u32 1342533948, .int .u32 3988292384, .int .u32 4027552580, .int .u32 3604390888, .int .u32 3412177804, .int .u32 2607071920, .int .u32 2262029012, .int .u32 2685067896, .int .u32 3183342108]) ∧ (((0 : Nat) = 0) ∧ (Row.len (.ints .u32 ([0, 498536548, 997073096, 651767980, 1994146192, 1802195444, 1303535960, 1342533948, 3988292384, 4027552580, 3604390888, 3412177804, 2607071920, 2262029012, 2685067896, 3183342108])) = Row.len (.ints .u32 (List.replicate 16 (0 : Int)))))) ∧ ((16 : Nat) = 16)) ∧ True)))) ∧ True)))))
    (by kernel_rfl) ⟨trivial, ⟨⟨trivial, ⟨trivial, trivial⟩⟩, ⟨trivial, ⟨⟨trivial, ⟨⟨by simp [FlatL, Flat, Flat2, Flat1, Row.cells], by simp [FlatL, Flat, Flat2, Flat1, Row.cells], fun w => by kernel_rfl⟩, ⟨trivial, ⟨⟨⟨rfl, ⟨rfl, h1⟩⟩, (by decide)⟩, trivial⟩⟩⟩⟩, trivial⟩⟩⟩⟩ ?_
  refine Ends.rekey (T' := [some (.pointer (some ⟨0, 0, none⟩)), none]) (H' := [some ⟨true, 38, .ints .u32 ([0, 498536548, 997073096, 651767980, 1994146192, 1802195444, 1303535960, 1342533948, 3988292384, 4027552580, 3604390888, 3412177804, 2607071920, 2262029012, 2685067896, 3183342108])⟩]) [0] ⟨rfl, rfl, Nat.le_of_ble_eq_true rfl⟩ rfl rfl (And.intro rfl trivial) ?_
  refine Ends.cutF (Hf := [some ⟨true, 38, .ints .u32 ([0, 498536548, 997073096, 651767980, 1994146192, 1802195444, 1303535960, 1342533948, 3988292384, 4027552580, 3604390888, 3412177804, 2607071920, 2262029012, 2685067896, 3183342108])⟩]) 0 (Nat.le_of_ble_eq_true rfl) (Nat.le_of_ble_eq_true rfl) (by simp [FlatL, Flat, Flat2, Flat1, Row.cells]) rfl rfl ?_
  exact (Ends.ret θok (C := ((0 = 0 ∧ Row.len (.ints .u32 ([0, 498536548, 997073096, 651767980, 1994146192, 1802195444, 1303535960, 1342533948, 3988292384, 4027552580, 3604390888, 3412177804, 2607071920, 2262029012, 2685067896, 3183342108])) = 16) ∧ True)) (by kernel_rfl) ⟨h2, trivial⟩)

end f21

/-! "lockbox/lockboxref03.Reg" -/
namespace f22

noncomputable def body : Code := (Tryd.f22.body).getD .skip

abbrev H0 (x0 : Int) (s1 : ByteArray) : Heap := []

def at0 (x0 : Int) (s1 : ByteArray)  (v : Value) (Hf : Heap) : Prop :=
  Ends Tryd.prog Tryd.f22 (H0 x0 s1) [.code (nav [] body)] [some (.int .u32 x0), some (.string s1), none, none, none, none, none, none, none, none, none, none, none, none, none, none, none, none, none, none, none, none, none, none, none, none, none, none, none] [] v Hf

def at1 (x0 : Int) (s1 : ByteArray) (i_1_0 : Int) (i_1_5 : Int) (v : Value) (Hf : Heap) : Prop :=
  Ends Tryd.prog Tryd.f22 (H0 x0 s1) [.code (nav [1, 0, 1, 0, 0] body), .inLoop (nav [1, 0, 1, 0, 0] body), .inBlock 0, .code (nav [1, 1] body)] [some (.int .u32 i_1_0), some (.string s1), none, none, some (.int .u32 0), some (.int .i64 i_1_5), none, none, none, none, none, none, none, none, none, none, none, none, none, none, none, none, none, none, none, none, none, none, none] [] v Hf

def at2 (x0 : Int) (s1 : ByteArray) (i_2_0 : Int) (i_2_5 : Int) (i_2_6 : Int) (i_2_7 : Int) (v : Value) (Hf : Heap) : Prop :=
  Ends Tryd.prog Tryd.f22 (H0 x0 s1) [.code (nav [1, 0, 1, 0, 0, 1, 0, 0, 1, 1, 0, 0] body), .inLoop (nav [1, 0, 1, 0, 0, 1, 0, 0, 1, 1, 0, 0] body), .inBlock 2, .inBlock 1, .code (nav [1, 0, 1, 0, 0, 1, 1] body), .inLoop (nav [1, 0, 1, 0, 0] body), .inBlock 0, .code (nav [1, 1] body)] [some (.int .u32 i_2_0), some (.string s1), none, none, some (.int .u32 0), some (.int .i64 i_2_5), some (.int .i64 i_2_6), some (.int .i64 i_2_7), none, none, none, none, none, none, none, none, none, none, none, none, none, none, none, none, none, none, none, none, none] [] v Hf

theorem ok {x0 : Int} {s1 : ByteArray} {v : Value} {Hf : Heap} (h : at0 x0 s1 v Hf) : FnOk Tryd.prog 22 [.int .u32 x0, .string s1] [] v Hf :=
  Ends.fnOk Tryd.func22 (c := body) (by kernel_rfl) (by kernel_rfl) (by kernel_rfl) h

theorem s1 {x0 : Int} {s1 : ByteArray}    {v : Value} {Hf : Heap} (hE : at1 x0 s1 x0 0 v Hf) : at0 x0 s1  v Hf := by
  refine Ends.run θok mixed (n := 7) (hs := [])
    (todo' := [.code (nav [1, 0, 1, 0, 0] body), .inLoop (nav [1, 0, 1, 0, 0] body), .inBlock 0, .code (nav [1, 1] body)])
    (T' := [some (.int .u32 x0), some (.string s1), none, none, some (.int .u32 0), some (.int .i64 0), none, none, none, none, none, none, none, none, none, none, none, none, none, none, none, none, none, none, none, none, none, none, none])
    (H' := [])
    (C := (True ∧ ((True ∧ (True ∧ True)) ∧ (True ∧ (True ∧ ((True ∧ (True ∧ True)) ∧ (True ∧ (True ∧ True))))))))
    (by kernel_rfl) ⟨trivial, ⟨⟨trivial, ⟨trivial, trivial⟩⟩, ⟨trivial, ⟨trivial, ⟨⟨trivial, ⟨trivial, trivial⟩⟩, ⟨trivial, ⟨trivial, trivial⟩⟩⟩⟩⟩⟩⟩ ?_
  refine Ends.rekey (T' := [some (.int .u32 x0), some (.string s1), none, none, some (.int .u32 0), some (.int .i64 0), none, none, none, none, none, none, none, none, none, none, none, none, none, none, none, none, none, none, none, none, none, none, none]) (H' := []) [] ⟨rfl, rfl, Nat.le_of_ble_eq_true rfl⟩ rfl rfl (And.intro rfl (And.intro rfl (And.intro rfl (And.intro rfl trivial)))) ?_
  exact hE

theorem s2 {x0 : Int} {s1 : ByteArray} {i_1_0 : Int} {i_1_5 : Int}  (h1 : (decide ((i_1_5 : Int) < (ByteArray.size s1 : Int))) = true) (h2 : (0 : Int) ≤ i_1_5 ∧ i_1_5 < (ByteArray.size s1 : Int)) (h3 : (-9223372036854775808 : Int) ≤ bt s1 i_1_5 ∧ (bt s1 i_1_5 : Int) ≤ 9223372036854775807) {v : Value} {Hf : Heap} (hE : at2 x0 s1 i_1_0 i_1_5 (bt s1 i_1_5) 0 v Hf) : at1 x0 s1 i_1_0 i_1_5 v Hf := by
  refine Ends.run θok mixed (n := 13) (hs := [.b true])
    (todo' := [.code (nav [1, 0, 1, 0, 0, 1, 0, 0, 1, 1, 0, 0] body), .inLoop (nav [1, 0, 1, 0, 0, 1, 0, 0, 1, 1, 0, 0] body), .inBlock 2, .inBlock 1, .code (nav [1, 0, 1, 0, 0, 1, 1] body), .inLoop (nav [1, 0, 1, 0, 0] body), .inBlock 0, .code (nav [1, 1] body)])
    (T' := [some (.int .u32 i_1_0), some (.string s1), none, none, some (.int .u32 0), some (.int .i64 i_1_5), some (.int .i64 (bt s1 i_1_5)), some (.int .i64 0), some (.int .i64 i_1_5), some (.string s1), some (.int .i64 (ByteArray.size s1 : Int)), some (.bool (decide ((i_1_5 : Int) < (ByteArray.size s1 : Int)))), none, none, some (.string s1), some (.int .i64 i_1_5), some (.int .u8 (bt s1 i_1_5)), some (.int .i64 (bt s1 i_1_5)), none, none, none, none, none, none, none, none, none, none, none])
    (H' := [])
    (C := (True ∧ (True ∧ ((True ∧ (True ∧ (True ∧ (True ∧ (True ∧ (True ∧ (True ∧ (True ∧ True)))))))) ∧ (((decide ((i_1_5 : Int) < (ByteArray.size s1 : Int))) = true) ∧ (True ∧ (True ∧ (True ∧ (True ∧ ((True ∧ (True ∧ (True ∧ (True ∧ (True ∧ (((0 : Int) ≤ i_1_5 ∧ i_1_5 < (ByteArray.size s1 : Int)) ∧ (True ∧ (((-9223372036854775808 : Int) ≤ bt s1 i_1_5 ∧ (bt s1 i_1_5 : Int) ≤ 9223372036854775807) ∧ (True ∧ (True ∧ True)))))))))) ∧ (True ∧ ((True ∧ (True ∧ True)) ∧ (True ∧ (True ∧ True))))))))))))))
    (by kernel_rfl) ⟨trivial, ⟨trivial, ⟨⟨trivial, ⟨trivial, ⟨trivial, ⟨trivial, ⟨trivial, ⟨trivial, ⟨trivial, ⟨trivial, trivial⟩⟩⟩⟩⟩⟩⟩⟩, ⟨h1, ⟨trivial, ⟨trivial, ⟨trivial, ⟨trivial, ⟨⟨trivial, ⟨trivial, ⟨trivial, ⟨trivial, ⟨trivial, ⟨h2, ⟨trivial, ⟨h3, ⟨trivial, ⟨trivial, trivial⟩⟩⟩⟩⟩⟩⟩⟩⟩⟩, ⟨trivial, ⟨⟨trivial, ⟨trivial, trivial⟩⟩, ⟨trivial, ⟨trivial, trivial⟩⟩⟩⟩⟩⟩⟩⟩⟩⟩⟩⟩⟩ ?_
  refine Ends.rekey (T' := [some (.int .u32 i_1_0), some (.string s1), none, none, some (.int .u32 0), some (.int .i64 i_1_5), some (.int .i64 (bt s1 i_1_5)), some (.int .i64 0), none, none, none, none, none, none, none, none, none, none, none, none, none, none, none, none, none, none, none, none, none]) (H' := []) [] ⟨rfl, rfl, Nat.le_of_ble_eq_true rfl⟩ rfl rfl (And.intro rfl (And.intro rfl (And.intro rfl (And.intro rfl (And.intro rfl (And.intro rfl trivial)))))) ?_
  exact hE

theorem s3 {x0 : Int} {s1 : ByteArray} {i_1_0 : Int} {i_1_5 : Int}  (h1 : (decide ((i_1_5 : Int) < (ByteArray.size s1 : Int))) = false) : at1 x0 s1 i_1_0 i_1_5 (.int .u32 i_1_0) [] := by
  refine Ends.run θok mixed (n := 7) (hs := [.b false])
    (todo' := [.code (nav [1, 1, 1] body)])
    (T' := [some (.int .u32 i_1_0), some (.string s1), none, none, some (.int .u32 i_1_0), some (.int .i64 i_1_5), none, none, some (.int .i64 i_1_5), some (.string s1), some (.int .i64 (ByteArray.size s1 : Int)), some (.bool (decide ((i_1_5 : Int) < (ByteArray.size s1 : Int)))), none, none, none, none, none, none, none, none, none, none, none, none, none, none, none, none, some (.int .u32 i_1_0)])
    (H' := [])
    (C := (True ∧ (True ∧ ((True ∧ (True ∧ (True ∧ (True ∧ (True ∧ (True ∧ (True ∧ (True ∧ True)))))))) ∧ (((decide ((i_1_5 : Int) < (ByteArray.size s1 : Int))) = false) ∧ (True ∧ (True ∧ ((True ∧ (True ∧ (True ∧ (True ∧ True)))) ∧ True))))))))
    (by kernel_rfl) ⟨trivial, ⟨trivial, ⟨⟨trivial, ⟨trivial, ⟨trivial, ⟨trivial, ⟨trivial, ⟨trivial, ⟨trivial, ⟨trivial, trivial⟩⟩⟩⟩⟩⟩⟩⟩, ⟨h1, ⟨trivial, ⟨trivial, ⟨⟨trivial, ⟨trivial, ⟨trivial, ⟨trivial, trivial⟩⟩⟩⟩, trivial⟩⟩⟩⟩⟩⟩⟩ ?_
  refine Ends.rekey (T' := [none, none, none, none, some (.int .u32 i_1_0), none, none, none, none, none, none, none, none, none, none, none, none, none, none, none, none, none, none, none, none, none, none, none, none]) (H' := []) [] ⟨rfl, rfl, Nat.le_of_ble_eq_true rfl⟩ rfl rfl (And.intro rfl trivial) ?_
  exact (Ends.ret θok (C := (True ∧ True)) (by kernel_rfl) ⟨trivial, trivial⟩)

theorem s4 {x0 : Int} {s1 : ByteArray} {i_2_0 : Int} {i_2_5 : Int} {i_2_6 : Int} {i_2_7 : Int} {r1 : Int} (h1 : (decide ((i_2_7 : Int) < 8)) = true) (h2 : (0 : Int) ≤ i_2_6 ∧ (0 : Int) < 2) (h3 : Pure Tryd.prog 17 [.int .u32 i_2_0, .int .i64 (i_2_6 % 2)] (.int .u32 r1)) (h4 : (0 : Int) ≤ i_2_6 ∧ (0 : Int) < 2 ∧ (i_2_6 : Int) ≤ 9223372036854775807) (h5 : (-9223372036854775808 : Int) ≤ i_2_7 + 1 ∧ (i_2_7 + 1 : Int) ≤ 9223372036854775807) {v : Value} {Hf : Heap} (hE : at2 x0 s1 r1 i_2_5 (i_2_6 / 2) (i_2_7 + 1) v Hf) : at2 x0 s1 i_2_0 i_2_5 i_2_6 i_2_7 v Hf := by
  refine Ends.run θok mixed (n := 13) (hs := [.b true, .b true, .call (.int .u32 r1), .b true])
    (todo' := [.code (nav [1, 0, 1, 0, 0, 1, 0, 0, 1, 1, 0, 0] body), .inLoop (nav [1, 0, 1, 0, 0, 1, 0, 0, 1, 1, 0, 0] body), .inBlock 2, .inBlock 1, .code (nav [1, 0, 1, 0, 0, 1, 1] body), .inLoop (nav [1, 0, 1, 0, 0] body), .inBlock 0, .code (nav [1, 1] body)])
    (T' := [some (.int .u32 r1), some (.string s1), none, none, some (.int .u32 0), some (.int .i64 i_2_5), some (.int .i64 (i_2_6 / 2)), some (.int .i64 (i_2_7 + 1)), none, none, none, none, none, none, none, none, none, none, some (.int .i64 i_2_7), some (.bool (decide ((i_2_7 : Int) < 8))), some (.int .i64 i_2_7), some (.int .i64 (i_2_7 + 1)), some (.int .u32 i_2_0), some (.int .i64 i_2_6), some (.int .i64 (i_2_6 % 2)), some (.int .u32 r1), some (.int .i64 i_2_6), some (.int .i64 (i_2_6 / 2)), none])
    (H' := [])
    (C := (True ∧ (True ∧ ((True ∧ (True ∧ (True ∧ (True ∧ True)))) ∧ (((decide ((i_2_7 : Int) < 8)) = true) ∧ (True ∧ (True ∧ (True ∧ (True ∧ ((True ∧ (True ∧ (True ∧ (True ∧ (True ∧ (((0 : Int) ≤ i_2_6 ∧ (0 : Int) < 2) ∧ (True ∧ ((FlatL [.int .u32 i_2_0, .int .i64 (i_2_6 % 2)] ∧ Pure Tryd.prog 17 [.int .u32 i_2_0, .int .i64 (i_2_6 % 2)] (.int .u32 r1)) ∧ (True ∧ (True ∧ True)))))))))) ∧ ((True ∧ (True ∧ (True ∧ (((0 : Int) ≤ i_2_6 ∧ (0 : Int) < 2 ∧ (i_2_6 : Int) ≤ 9223372036854775807) ∧ (True ∧ (True ∧ True)))))) ∧ (True ∧ ((True ∧ (True ∧ (True ∧ (((-9223372036854775808 : Int) ≤ i_2_7 + 1 ∧ (i_2_7 + 1 : Int) ≤ 9223372036854775807) ∧ (True ∧ (True ∧ True)))))) ∧ (True ∧ True))))))))))))))
    (by kernel_rfl) ⟨trivial, ⟨trivial, ⟨⟨trivial, ⟨trivial, ⟨trivial, ⟨trivial, trivial⟩⟩⟩⟩, ⟨h1, ⟨trivial, ⟨trivial, ⟨trivial, ⟨trivial, ⟨⟨trivial, ⟨trivial, ⟨trivial, ⟨trivial, ⟨trivial, ⟨h2, ⟨trivial, ⟨⟨by simp [FlatL, Flat, Flat2, Flat1, Row.cells], h3⟩, ⟨trivial, ⟨trivial, trivial⟩⟩⟩⟩⟩⟩⟩⟩⟩⟩, ⟨⟨trivial, ⟨trivial, ⟨trivial, ⟨h4, ⟨trivial, ⟨trivial, trivial⟩⟩⟩⟩⟩⟩, ⟨trivial, ⟨⟨trivial, ⟨trivial, ⟨trivial, ⟨h5, ⟨trivial, ⟨trivial, trivial⟩⟩⟩⟩⟩⟩, ⟨trivial, trivial⟩⟩⟩⟩⟩⟩⟩⟩⟩⟩⟩⟩⟩ ?_
  refine Ends.rekey (T' := [some (.int .u32 r1), some (.string s1), none, none, some (.int .u32 0), some (.int .i64 i_2_5), some (.int .i64 (i_2_6 / 2)), some (.int .i64 (i_2_7 + 1)), none, none, none, none, none, none, none, none, none, none, none, none, none, none, none, none, none, none, none, none, none]) (H' := []) [] ⟨rfl, rfl, Nat.le_of_ble_eq_true rfl⟩ rfl rfl (And.intro rfl (And.intro rfl (And.intro rfl (And.intro rfl (And.intro rfl (And.intro rfl trivial)))))) ?_
  exact hE

theorem s5 {x0 : Int} {s1 : ByteArray} {i_2_0 : Int} {i_2_5 : Int} {i_2_6 : Int} {i_2_7 : Int}  (h1 : (decide ((i_2_7 : Int) < 8)) = false) (h2 : (-9223372036854775808 : Int) ≤ i_2_5 + 1 ∧ (i_2_5 + 1 : Int) ≤ 9223372036854775807) {v : Value} {Hf : Heap} (hE : at1 x0 s1 i_2_0 (i_2_5 + 1) v Hf) : at2 x0 s1 i_2_0 i_2_5 i_2_6 i_2_7 v Hf := by
  refine Ends.run θok mixed (n := 8) (hs := [.b false])
    (todo' := [.code (nav [1, 0, 1, 0, 0] body), .inLoop (nav [1, 0, 1, 0, 0] body), .inBlock 0, .code (nav [1, 1] body)])
    (T' := [some (.int .u32 i_2_0), some (.string s1), none, none, some (.int .u32 0), some (.int .i64 (i_2_5 + 1)), some (.int .i64 i_2_6), some (.int .i64 i_2_7), none, none, none, none, some (.int .i64 i_2_5), some (.int .i64 (i_2_5 + 1)), none, none, none, none, some (.int .i64 i_2_7), some (.bool (decide ((i_2_7 : Int) < 8))), none, none, none, none, none, none, none, none, none])
    (H' := [])
    (C := (True ∧ (True ∧ ((True ∧ (True ∧ (True ∧ (True ∧ True)))) ∧ (((decide ((i_2_7 : Int) < 8)) = false) ∧ (True ∧ (True ∧ ((True ∧ (True ∧ (True ∧ (((-9223372036854775808 : Int) ≤ i_2_5 + 1 ∧ (i_2_5 + 1 : Int) ≤ 9223372036854775807) ∧ (True ∧ (True ∧ True)))))) ∧ (True ∧ True)))))))))
    (by kernel_rfl) ⟨trivial, ⟨trivial, ⟨⟨trivial, ⟨trivial, ⟨trivial, ⟨trivial, trivial⟩⟩⟩⟩, ⟨h1, ⟨trivial, ⟨trivial, ⟨⟨trivial, ⟨trivial, ⟨trivial, ⟨h2, ⟨trivial, ⟨trivial, trivial⟩⟩⟩⟩⟩⟩, ⟨trivial, trivial⟩⟩⟩⟩⟩⟩⟩⟩ ?_
  refine Ends.rekey (T' := [some (.int .u32 i_2_0), some (.string s1), none, none, some (.int .u32 0), some (.int .i64 (i_2_5 + 1)), none, none, none, none, none, none, none, none, none, none, none, none, none, none, none, none, none, none, none, none, none, none, none]) (H' := []) [] ⟨rfl, rfl, Nat.le_of_ble_eq_true rfl⟩ rfl rfl (And.intro rfl (And.intro rfl (And.intro rfl (And.intro rfl trivial)))) ?_
  exact hE

end f22

/-! "lockbox/crc.zero" -/
namespace f23

noncomputable def body : Code := (Tryd.f23.body).getD .skip

abbrev H0  : Heap := []

def at0   (v : Value) (Hf : Heap) : Prop :=
  Ends Tryd.prog Tryd.f23 (H0 ) [.code (nav [] body)] [none, none, none, none, none, none, none, none, none, none, none, none, none, none, none, none, none, none, none] [] v Hf

def at1  (i_1_4 : Int) (xs_1_k0 : List Int) (xs_1_k1 : List Int) (v : Value) (Hf : Heap) : Prop :=
  Ends Tryd.prog Tryd.f23 (H0 ) [.code (nav [1, 1, 0, 1, 0, 0] body), .inLoop (nav [1, 1, 0, 1, 0, 0] body), .inBlock 0, .code (nav [1, 1, 1] body)] [some (.pointer (some ⟨0, 0, none⟩)), some (.pointer (some ⟨1, 0, none⟩)), none, none, some (.int .i64 i_1_4), none, none, none, none, none, none, none, none, none, none, none, none, none, none] [some ⟨true, 41, .ints .u32 xs_1_k0⟩, some ⟨true, 41, .ints .u32 xs_1_k1⟩] v Hf

def at2  (i_2_2 : Int) (i_2_3 : Int) (i_2_4 : Int) (i_2_9 : Int) (xs_2_k0 : List Int) (xs_2_k1 : List Int) (v : Value) (Hf : Heap) : Prop :=
  Ends Tryd.prog Tryd.f23 (H0 ) [.code (nav [1, 1, 0, 1, 0, 0, 1, 1, 0, 0, 1, 1, 0, 1, 0, 0] body), .inLoop (nav [1, 1, 0, 1, 0, 0, 1, 1, 0, 0, 1, 1, 0, 1, 0, 0] body), .inBlock 2, .code (nav [1, 1, 0, 1, 0, 0, 1, 1, 0, 0, 1, 1, 1] body), .inBlock 1, .code (nav [1, 1, 0, 1, 0, 0, 1, 1, 1] body), .inLoop (nav [1, 1, 0, 1, 0, 0] body), .inBlock 0, .code (nav [1, 1, 1] body)] [some (.pointer (some ⟨0, 0, none⟩)), some (.pointer (some ⟨1, 0, none⟩)), some (.int .i64 i_2_2), some (.int .u32 i_2_3), some (.int .i64 i_2_4), none, none, none, none, some (.int .i64 i_2_9), none, none, none, none, none, none, none, none, none] [some ⟨true, 41, .ints .u32 xs_2_k0⟩, some ⟨true, 41, .ints .u32 xs_2_k1⟩] v Hf

theorem ok  {v : Value} {Hf : Heap} (h : at0  v Hf) : FnOk Tryd.prog 23 [] [] v Hf :=
  Ends.fnOk Tryd.func23 (c := body) (by kernel_rfl) (by kernel_rfl) (by kernel_rfl) h

theorem s1     {v : Value} {Hf : Heap} (hE : at1  0 (List.replicate 32 (0 : Int)) (List.replicate 32 (0 : Int)) v Hf) : at0   v Hf := by
  refine Ends.run θok mixed (n := 9) (hs := [])
    (todo' := [.code (nav [1, 1, 0, 1, 0, 0] body), .inLoop (nav [1, 1, 0, 1, 0, 0] body), .inBlock 0, .code (nav [1, 1, 1] body)])
    (T' := [some (.pointer (some ⟨0, 0, none⟩)), some (.pointer (some ⟨1, 0, none⟩)), none, none, some (.int .i64 0), none, none, none, none, none, none, none, none, none, none, none, none, none, none])
    (H' := [some ⟨true, 41, .ints .u32 (List.replicate 32 (0 : Int))⟩, some ⟨true, 41, .ints .u32 (List.replicate 32 (0 : Int))⟩])
    (C := (True ∧ ((True ∧ (True ∧ True)) ∧ (True ∧ ((True ∧ (True ∧ True)) ∧ (True ∧ (True ∧ ((True ∧ (True ∧ True)) ∧ (True ∧ (True ∧ True))))))))))
    (by kernel_rfl) ⟨trivial, ⟨⟨trivial, ⟨trivial, trivial⟩⟩, ⟨trivial, ⟨⟨trivial, ⟨trivial, trivial⟩⟩, ⟨trivial, ⟨trivial, ⟨⟨trivial, ⟨trivial, trivial⟩⟩, ⟨trivial, ⟨trivial, trivial⟩⟩⟩⟩⟩⟩⟩⟩⟩ ?_
  refine Ends.rekey (T' := [some (.pointer (some ⟨0, 0, none⟩)), some (.pointer (some ⟨1, 0, none⟩)), none, none, some (.int .i64 0), none, none, none, none, none, none, none, none, none, none, none, none, none, none]) (H' := [some ⟨true, 41, .ints .u32 (List.replicate 32 (0 : Int))⟩, some ⟨true, 41, .ints .u32 (List.replicate 32 (0 : Int))⟩]) [0, 1] ⟨rfl, rfl, Nat.le_of_ble_eq_true rfl⟩ rfl rfl (And.intro rfl (And.intro rfl (And.intro rfl trivial))) ?_
  exact hE

theorem s2  {i_1_4 : Int} {xs_1_k0 : List Int} {xs_1_k1 : List Int}  (h1 : (decide ((i_1_4 : Int) < 32)) = true) (h2 : (0 : Int) ≤ i_1_4 ∧ i_1_4 ≤ (IntKind.bits .u32 : Nat)) {v : Value} {Hf : Heap} (hE : at2  i_1_4 (wrapE .u32 (1 * 2 ^ (Int.toNat i_1_4))) i_1_4 0 xs_1_k0 xs_1_k1 v Hf) : at1  i_1_4 xs_1_k0 xs_1_k1 v Hf := by
  refine Ends.run θok mixed (n := 16) (hs := [.b true])
    (todo' := [.code (nav [1, 1, 0, 1, 0, 0, 1, 1, 0, 0, 1, 1, 0, 1, 0, 0] body), .inLoop (nav [1, 1, 0, 1, 0, 0, 1, 1, 0, 0, 1, 1, 0, 1, 0, 0] body), .inBlock 2, .code (nav [1, 1, 0, 1, 0, 0, 1, 1, 0, 0, 1, 1, 1] body), .inBlock 1, .code (nav [1, 1, 0, 1, 0, 0, 1, 1, 1] body), .inLoop (nav [1, 1, 0, 1, 0, 0] body), .inBlock 0, .code (nav [1, 1, 1] body)])
    (T' := [some (.pointer (some ⟨0, 0, none⟩)), some (.pointer (some ⟨1, 0, none⟩)), some (.int .i64 i_1_4), some (.int .u32 (wrapE .u32 (1 * 2 ^ (Int.toNat i_1_4)))), some (.int .i64 i_1_4), some (.bool (decide ((i_1_4 : Int) < 32))), some (.int .i64 i_1_4), some (.int .i64 i_1_4), some (.int .u32 (wrapE .u32 (1 * 2 ^ (Int.toNat i_1_4)))), some (.int .i64 0), none, none, none, none, none, none, none, none, none])
    (H' := [some ⟨true, 41, .ints .u32 xs_1_k0⟩, some ⟨true, 41, .ints .u32 xs_1_k1⟩])
    (C := (True ∧ ((True ∧ (True ∧ True)) ∧ (True ∧ (((decide ((i_1_4 : Int) < 32)) = true) ∧ (True ∧ (True ∧ (True ∧ (True ∧ ((True ∧ (True ∧ (True ∧ (True ∧ True)))) ∧ (True ∧ ((True ∧ (True ∧ (True ∧ (((0 : Int) ≤ i_1_4 ∧ i_1_4 ≤ (IntKind.bits .u32 : Nat)) ∧ (True ∧ (True ∧ True)))))) ∧ (True ∧ (True ∧ ((True ∧ (True ∧ True)) ∧ (True ∧ (True ∧ True)))))))))))))))))
    (by kernel_rfl) ⟨trivial, ⟨⟨trivial, ⟨trivial, trivial⟩⟩, ⟨trivial, ⟨h1, ⟨trivial, ⟨trivial, ⟨trivial, ⟨trivial, ⟨⟨trivial, ⟨trivial, ⟨trivial, ⟨trivial, trivial⟩⟩⟩⟩, ⟨trivial, ⟨⟨trivial, ⟨trivial, ⟨trivial, ⟨h2, ⟨trivial, ⟨trivial, trivial⟩⟩⟩⟩⟩⟩, ⟨trivial, ⟨trivial, ⟨⟨trivial, ⟨trivial, trivial⟩⟩, ⟨trivial, ⟨trivial, trivial⟩⟩⟩⟩⟩⟩⟩⟩⟩⟩⟩⟩⟩⟩⟩⟩ ?_
  refine Ends.rekey (T' := [some (.pointer (some ⟨0, 0, none⟩)), some (.pointer (some ⟨1, 0, none⟩)), some (.int .i64 i_1_4), some (.int .u32 (wrapE .u32 (1 * 2 ^ (Int.toNat i_1_4)))), some (.int .i64 i_1_4), none, none, none, none, some (.int .i64 0), none, none, none, none, none, none, none, none, none]) (H' := [some ⟨true, 41, .ints .u32 xs_1_k0⟩, some ⟨true, 41, .ints .u32 xs_1_k1⟩]) [0, 1] ⟨rfl, rfl, Nat.le_of_ble_eq_true rfl⟩ rfl rfl (And.intro rfl (And.intro rfl (And.intro rfl (And.intro rfl (And.intro rfl (And.intro rfl trivial)))))) ?_
  exact hE

theorem s3  {i_1_4 : Int} {xs_1_k0 : List Int} {xs_1_k1 : List Int}  (h1 : (decide ((i_1_4 : Int) < 32)) = false) (h2 : 0 = 0 ∧ Row.len (.ints .u32 xs_1_k1) = 32) (h3 : Row.len (.ints .u32 xs_1_k1) = Row.len (.ints .u32 xs_1_k0)) (h4 : Array.size (Row.cells (.ints .u32 xs_1_k1)).toArray = 32) : at1  i_1_4 xs_1_k0 xs_1_k1 (.agg (Row.cells (.ints .u32 xs_1_k1)).toArray) [] := by
  refine Ends.run θok mixed (n := 7) (hs := [.b false, .row (.ints .u32 xs_1_k1)])
    (todo' := [.code (nav [1, 1, 1, 1] body)])
    (T' := [some (.pointer (some ⟨0, 0, none⟩)), some (.pointer (some ⟨1, 0, none⟩)), none, none, some (.int .i64 i_1_4), some (.bool (decide ((i_1_4 : Int) < 32))), none, none, none, none, none, none, none, none, none, none, none, none, some (.agg (Row.cells (.ints .u32 xs_1_k1)).toArray)])
    (H' := [some ⟨true, 41, .ints .u32 xs_1_k1⟩, some ⟨true, 41, .ints .u32 xs_1_k1⟩])
    (C := (True ∧ ((True ∧ (True ∧ True)) ∧ (True ∧ (((decide ((i_1_4 : Int) < 32)) = false) ∧ (True ∧ (True ∧ ((True ∧ ((0 = 0 ∧ Row.len (.ints .u32 xs_1_k1) = 32) ∧ (True ∧ ((((Row.cells (.ints .u32 xs_1_k1) = Array.toList (Row.cells (.ints .u32 xs_1_k1)).toArray) ∧ (((0 : Nat) = 0) ∧ (Row.len (.ints .u32 xs_1_k1) = Row.len (.ints .u32 xs_1_k0)))) ∧ (Array.size (Row.cells (.ints .u32 xs_1_k1)).toArray = 32)) ∧ True)))) ∧ True))))))))
    (by kernel_rfl) ⟨trivial, ⟨⟨trivial, ⟨trivial, trivial⟩⟩, ⟨trivial, ⟨h1, ⟨trivial, ⟨trivial, ⟨⟨trivial, ⟨h2, ⟨trivial, ⟨⟨⟨rfl, ⟨rfl, h3⟩⟩, h4⟩, trivial⟩⟩⟩⟩, trivial⟩⟩⟩⟩⟩⟩⟩ ?_
  refine Ends.rekey (T' := [some (.pointer (some ⟨0, 0, none⟩)), none, none, none, none, none, none, none, none, none, none, none, none, none, none, none, none, none, none]) (H' := [some ⟨true, 41, .ints .u32 xs_1_k1⟩]) [0] ⟨rfl, rfl, Nat.le_of_ble_eq_true rfl⟩ rfl rfl (And.intro rfl trivial) ?_
  refine Ends.cutF (Hf := [some ⟨true, 41, .ints .u32 xs_1_k1⟩]) 0 (Nat.le_of_ble_eq_true rfl) (Nat.le_of_ble_eq_true rfl) (by simp [FlatL, Flat, Flat2, Flat1, Row.cells]) rfl rfl ?_
  exact (Ends.ret θok (C := ((0 = 0 ∧ Row.len (.ints .u32 xs_1_k1) = 32) ∧ True)) (by kernel_rfl) ⟨h2, trivial⟩)

theorem s4  {i_2_2 : Int} {i_2_3 : Int} {i_2_4 : Int} {i_2_9 : Int} {xs_2_k0 : List Int} {xs_2_k1 : List Int} {r1 : Int} (h1 : (decide ((i_2_9 : Int) < 8)) = true) (h2 : Pure Tryd.prog 16 [.int .u32 i_2_3, .int .i64 0] (.int .u32 r1)) (h3 : (-9223372036854775808 : Int) ≤ i_2_9 + 1 ∧ (i_2_9 + 1 : Int) ≤ 9223372036854775807) {v : Value} {Hf : Heap} (hE : at2  i_2_2 r1 i_2_4 (i_2_9 + 1) xs_2_k0 xs_2_k1 v Hf) : at2  i_2_2 i_2_3 i_2_4 i_2_9 xs_2_k0 xs_2_k1 v Hf := by
  refine Ends.run θok mixed (n := 11) (hs := [.b true, .call (.int .u32 r1)])
    (todo' := [.code (nav [1, 1, 0, 1, 0, 0, 1, 1, 0, 0, 1, 1, 0, 1, 0, 0] body), .inLoop (nav [1, 1, 0, 1, 0, 0, 1, 1, 0, 0, 1, 1, 0, 1, 0, 0] body), .inBlock 2, .code (nav [1, 1, 0, 1, 0, 0, 1, 1, 0, 0, 1, 1, 1] body), .inBlock 1, .code (nav [1, 1, 0, 1, 0, 0, 1, 1, 1] body), .inLoop (nav [1, 1, 0, 1, 0, 0] body), .inBlock 0, .code (nav [1, 1, 1] body)])
    (T' := [some (.pointer (some ⟨0, 0, none⟩)), some (.pointer (some ⟨1, 0, none⟩)), some (.int .i64 i_2_2), some (.int .u32 r1), some (.int .i64 i_2_4), none, none, none, none, some (.int .i64 (i_2_9 + 1)), some (.bool (decide ((i_2_9 : Int) < 8))), some (.int .u32 i_2_3), some (.int .u32 r1), some (.int .i64 (i_2_9 + 1)), none, none, none, none, none])
    (H' := [some ⟨true, 41, .ints .u32 xs_2_k0⟩, some ⟨true, 41, .ints .u32 xs_2_k1⟩])
    (C := (True ∧ ((True ∧ (True ∧ True)) ∧ (True ∧ (((decide ((i_2_9 : Int) < 8)) = true) ∧ (True ∧ (True ∧ (True ∧ ((True ∧ (True ∧ (True ∧ ((FlatL [.int .u32 i_2_3, .int .i64 0] ∧ Pure Tryd.prog 16 [.int .u32 i_2_3, .int .i64 0] (.int .u32 r1)) ∧ (True ∧ (True ∧ True)))))) ∧ (True ∧ ((True ∧ (((-9223372036854775808 : Int) ≤ i_2_9 + 1 ∧ (i_2_9 + 1 : Int) ≤ 9223372036854775807) ∧ (True ∧ (True ∧ True)))) ∧ (True ∧ True))))))))))))
    (by kernel_rfl) ⟨trivial, ⟨⟨trivial, ⟨trivial, trivial⟩⟩, ⟨trivial, ⟨h1, ⟨trivial, ⟨trivial, ⟨trivial, ⟨⟨trivial, ⟨trivial, ⟨trivial, ⟨⟨by simp [FlatL, Flat, Flat2, Flat1, Row.cells], h2⟩, ⟨trivial, ⟨trivial, trivial⟩⟩⟩⟩⟩⟩, ⟨trivial, ⟨⟨trivial, ⟨h3, ⟨trivial, ⟨trivial, trivial⟩⟩⟩⟩, ⟨trivial, trivial⟩⟩⟩⟩⟩⟩⟩⟩⟩⟩⟩ ?_
  refine Ends.rekey (T' := [some (.pointer (some ⟨0, 0, none⟩)), some (.pointer (some ⟨1, 0, none⟩)), some (.int .i64 i_2_2), some (.int .u32 r1), some (.int .i64 i_2_4), none, none, none, none, some (.int .i64 (i_2_9 + 1)), none, none, none, none, none, none, none, none, none]) (H' := [some ⟨true, 41, .ints .u32 xs_2_k0⟩, some ⟨true, 41, .ints .u32 xs_2_k1⟩]) [0, 1] ⟨rfl, rfl, Nat.le_of_ble_eq_true rfl⟩ rfl rfl (And.intro rfl (And.intro rfl (And.intro rfl (And.intro rfl (And.intro rfl (And.intro rfl trivial)))))) ?_
  exact hE

theorem s5  {i_2_2 : Int} {i_2_3 : Int} {i_2_4 : Int} {i_2_9 : Int} {xs_2_k0 : List Int} {xs_2_k1 : List Int}  (h1 : (decide ((i_2_9 : Int) < 8)) = false) (h2 : (0 : Int) ≤ i_2_2 ∧ (i_2_2 : Int) < 32) (h3 : 0 + ((Int.toNat i_2_2) * 1) < List.length xs_2_k1) (h4 : (-9223372036854775808 : Int) ≤ i_2_4 + 1 ∧ (i_2_4 + 1 : Int) ≤ 9223372036854775807) {v : Value} {Hf : Heap} (hE : at1  (i_2_4 + 1) xs_2_k0 (List.set xs_2_k1 (0 + ((Int.toNat i_2_2) * 1)) i_2_3) v Hf) : at2  i_2_2 i_2_3 i_2_4 i_2_9 xs_2_k0 xs_2_k1 v Hf := by
  refine Ends.run θok mixed (n := 9) (hs := [.b false])
    (todo' := [.code (nav [1, 1, 0, 1, 0, 0] body), .inLoop (nav [1, 1, 0, 1, 0, 0] body), .inBlock 0, .code (nav [1, 1, 1] body)])
    (T' := [some (.pointer (some ⟨0, 0, none⟩)), some (.pointer (some ⟨1, 0, none⟩)), some (.int .i64 i_2_2), some (.int .u32 i_2_3), some (.int .i64 (i_2_4 + 1)), none, none, none, none, some (.int .i64 i_2_9), some (.bool (decide ((i_2_9 : Int) < 8))), none, none, none, some (.int .i64 i_2_2), some (.int .u32 i_2_3), some (.pointer (some ⟨1, 0 + ((Int.toNat i_2_2) * 1), none⟩)), some (.int .i64 (i_2_4 + 1)), none])
    (H' := [some ⟨true, 41, .ints .u32 xs_2_k0⟩, some ⟨true, 41, .ints .u32 (List.set xs_2_k1 (0 + ((Int.toNat i_2_2) * 1)) i_2_3)⟩])
    (C := (True ∧ ((True ∧ (True ∧ True)) ∧ (True ∧ (((decide ((i_2_9 : Int) < 8)) = false) ∧ (True ∧ ((True ∧ (True ∧ (True ∧ (True ∧ (True ∧ (((0 : Int) ≤ i_2_2 ∧ (i_2_2 : Int) < 32) ∧ (True ∧ ((0 + ((Int.toNat i_2_2) * 1) < List.length xs_2_k1) ∧ True)))))))) ∧ (True ∧ ((True ∧ (((-9223372036854775808 : Int) ≤ i_2_4 + 1 ∧ (i_2_4 + 1 : Int) ≤ 9223372036854775807) ∧ (True ∧ (True ∧ True)))) ∧ (True ∧ True))))))))))
    (by kernel_rfl) ⟨trivial, ⟨⟨trivial, ⟨trivial, trivial⟩⟩, ⟨trivial, ⟨h1, ⟨trivial, ⟨⟨trivial, ⟨trivial, ⟨trivial, ⟨trivial, ⟨trivial, ⟨h2, ⟨trivial, ⟨h3, trivial⟩⟩⟩⟩⟩⟩⟩⟩, ⟨trivial, ⟨⟨trivial, ⟨h4, ⟨trivial, ⟨trivial, trivial⟩⟩⟩⟩, ⟨trivial, trivial⟩⟩⟩⟩⟩⟩⟩⟩⟩ ?_
  refine Ends.rekey (T' := [some (.pointer (some ⟨0, 0, none⟩)), some (.pointer (some ⟨1, 0, none⟩)), none, none, some (.int .i64 (i_2_4 + 1)), none, none, none, none, none, none, none, none, none, none, none, none, none, none]) (H' := [some ⟨true, 41, .ints .u32 xs_2_k0⟩, some ⟨true, 41, .ints .u32 (List.set xs_2_k1 (0 + ((Int.toNat i_2_2) * 1)) i_2_3)⟩]) [0, 1] ⟨rfl, rfl, Nat.le_of_ble_eq_true rfl⟩ rfl rfl (And.intro rfl (And.intro rfl (And.intro rfl trivial))) ?_
  exact hE

end f23

end Go.Proofs.YtemfkgbbedlcaaaDoor.Abs.Seg03
