/-
  No cell of these rows narrows 'for every input' (looked for: loops, veiled, ifaces, maps, wideKeys, modest, calm, conditions, laid).
  DERIVED. THE GIVEN ROWS OF THIS SEAT. 6 by the template 'for every input the law returns true; each argument reads behind the call as it read before'; 0 by the template 'total and deterministic' (their statements: YtebdemkeoampbaaTotals.lean).
  GIVEN WITH THE SEED: the statements are not yours to turn. If you find one false, say at which input.
  Laid BY PROGRAM, IN A SANDBOX (cutbox-rows.mjs): the forced cells as the released guide's own fill.sh prints them over the translation e34f068a400420e9… (all of the seat's roots in one cut). By AI agents, Wed Nov 11 2026. No macro, syntax, notation, axiom, sorry.
-/
import Derived.Test.YtebdemkeoampbaaChecked
import GoSem.Claim
import GoSem.ClaimJoined
import GoSem.ClaimMapViews
import Derived.JoinedTies
import Derived.KernelRfl
namespace Go.Proofs.Ytebdemkeoampbaa
/- THE CELL 'sum', in the pinned program and in every row, IS THE sha256 OF THE DUMP (.gsa) THAT YtebdemkeoampbaaProg.lean LOADS. Nothing in Lean hashes anything: it is a label: what it is worth is what the hold of that sum in a sandbox is worth. -/
noncomputable def Try.pinned : Pinned := { name := "ytebdemkeoampbaa", sum := "e34f068a400420e970db9114a34d44a8c383ce3918ff95c8fcbd153fd22258ce", checked := Try.checked }
namespace Rows
def none {H : Type} : Left H := { results := [], args := [] }

/-- 'lockboxlaw01.DigestBlocks': WHATEVER THE INPUT: true; the input reads as it did. -/
def digestBlocksSpec : ChangeSpec := { name := "digestBlocks", fn := fun _ => fun
  | [d] => { results := [.lit (.bool true)], args := [d] }
  | _ => none }
def digestBlocksRow : OpenClaim := { program := "ytebdemkeoampbaa", sum := "e34f068a400420e970db9114a34d44a8c383ce3918ff95c8fcbd153fd22258ce", func := "lockbox/lockboxlaw01.DigestBlocks", spec := "digestBlocks", inPlace := ["internal/abi.NoEscape"], apart := false }
def DigestBlocksSaid : Prop := digestBlocksRow.holds Try.pinned (OpenSpec.ofChange digestBlocksSpec)

/-- ITS FALSE NEIGHBOUR: 'it returns false'. Refute it at one input. -/
def digestBlocksWrong : ChangeSpec := { name := "digestBlocks", fn := fun _ => fun
  | [d] => { results := [.lit (.bool false)], args := [d] }
  | _ => none }
def DigestBlocksWrongFalsely : Prop := digestBlocksRow.holds Try.pinned (OpenSpec.ofChange digestBlocksWrong)

/-- 'lockboxlaw01.DigestLong': WHATEVER THE INPUT: true; the input reads as it did. -/
def digestLongSpec : ChangeSpec := { name := "digestLong", fn := fun _ => fun
  | [d1, d2] => { results := [.lit (.bool true)], args := [d1, d2] }
  | _ => none }
def digestLongRow : OpenClaim := { program := "ytebdemkeoampbaa", sum := "e34f068a400420e970db9114a34d44a8c383ce3918ff95c8fcbd153fd22258ce", func := "lockbox/lockboxlaw01.DigestLong", spec := "digestLong", inPlace := ["internal/abi.NoEscape"], apart := false }
def DigestLongSaid : Prop := digestLongRow.holds Try.pinned (OpenSpec.ofChange digestLongSpec)

/-- ITS FALSE NEIGHBOUR: 'it returns false'. Refute it at one input. -/
def digestLongWrong : ChangeSpec := { name := "digestLong", fn := fun _ => fun
  | [d1, d2] => { results := [.lit (.bool false)], args := [d1, d2] }
  | _ => none }
def DigestLongWrongFalsely : Prop := digestLongRow.holds Try.pinned (OpenSpec.ofChange digestLongWrong)

/-- 'lockboxlaw01.DigestSums': WHATEVER THE INPUT: true; the input reads as it did. -/
def digestSumsSpec : ChangeSpec := { name := "digestSums", fn := fun _ => fun
  | [d] => { results := [.lit (.bool true)], args := [d] }
  | _ => none }
def digestSumsRow : OpenClaim := { program := "ytebdemkeoampbaa", sum := "e34f068a400420e970db9114a34d44a8c383ce3918ff95c8fcbd153fd22258ce", func := "lockbox/lockboxlaw01.DigestSums", spec := "digestSums", inPlace := ["internal/abi.NoEscape"], apart := false }
def DigestSumsSaid : Prop := digestSumsRow.holds Try.pinned (OpenSpec.ofChange digestSumsSpec)

/-- ITS FALSE NEIGHBOUR: 'it returns false'. Refute it at one input. -/
def digestSumsWrong : ChangeSpec := { name := "digestSums", fn := fun _ => fun
  | [d] => { results := [.lit (.bool false)], args := [d] }
  | _ => none }
def DigestSumsWrongFalsely : Prop := digestSumsRow.holds Try.pinned (OpenSpec.ofChange digestSumsWrong)

/-- 'lockboxlaw01.DigestParts': WHATEVER THE INPUT: true; the input reads as it did. -/
def digestPartsSpec : ChangeSpec := { name := "digestParts", fn := fun _ => fun
  | [d] => { results := [.lit (.bool true)], args := [d] }
  | _ => none }
def digestPartsRow : OpenClaim := { program := "ytebdemkeoampbaa", sum := "e34f068a400420e970db9114a34d44a8c383ce3918ff95c8fcbd153fd22258ce", func := "lockbox/lockboxlaw01.DigestParts", spec := "digestParts", inPlace := ["internal/abi.NoEscape"], apart := false }
def DigestPartsSaid : Prop := digestPartsRow.holds Try.pinned (OpenSpec.ofChange digestPartsSpec)

/-- ITS FALSE NEIGHBOUR: 'it returns false'. Refute it at one input. -/
def digestPartsWrong : ChangeSpec := { name := "digestParts", fn := fun _ => fun
  | [d] => { results := [.lit (.bool false)], args := [d] }
  | _ => none }
def DigestPartsWrongFalsely : Prop := digestPartsRow.holds Try.pinned (OpenSpec.ofChange digestPartsWrong)

/-- 'lockboxlaw01.DigestForks': WHATEVER THE INPUT: true; the input reads as it did. -/
def digestForksSpec : ChangeSpec := { name := "digestForks", fn := fun _ => fun
  | [d1, d2, d3] => { results := [.lit (.bool true)], args := [d1, d2, d3] }
  | _ => none }
def digestForksRow : OpenClaim := { program := "ytebdemkeoampbaa", sum := "e34f068a400420e970db9114a34d44a8c383ce3918ff95c8fcbd153fd22258ce", func := "lockbox/lockboxlaw01.DigestForks", spec := "digestForks", inPlace := ["internal/abi.NoEscape"], apart := false }
def DigestForksSaid : Prop := digestForksRow.holds Try.pinned (OpenSpec.ofChange digestForksSpec)

/-- ITS FALSE NEIGHBOUR: 'it returns false'. Refute it at one input. -/
def digestForksWrong : ChangeSpec := { name := "digestForks", fn := fun _ => fun
  | [d1, d2, d3] => { results := [.lit (.bool false)], args := [d1, d2, d3] }
  | _ => none }
def DigestForksWrongFalsely : Prop := digestForksRow.holds Try.pinned (OpenSpec.ofChange digestForksWrong)

/-- 'lockboxlaw01.DigestJoins': WHATEVER THE INPUT: true; the input reads as it did. -/
def digestJoinsSpec : ChangeSpec := { name := "digestJoins", fn := fun _ => fun
  | [d] => { results := [.lit (.bool true)], args := [d] }
  | _ => none }
def digestJoinsRow : OpenClaim := { program := "ytebdemkeoampbaa", sum := "e34f068a400420e970db9114a34d44a8c383ce3918ff95c8fcbd153fd22258ce", func := "lockbox/lockboxlaw01.DigestJoins", spec := "digestJoins", inPlace := ["internal/abi.NoEscape"], apart := false }
def DigestJoinsSaid : Prop := digestJoinsRow.holds Try.pinned (OpenSpec.ofChange digestJoinsSpec)

/-- ITS FALSE NEIGHBOUR: 'it returns false'. Refute it at one input. -/
def digestJoinsWrong : ChangeSpec := { name := "digestJoins", fn := fun _ => fun
  | [d] => { results := [.lit (.bool false)], args := [d] }
  | _ => none }
def DigestJoinsWrongFalsely : Prop := digestJoinsRow.holds Try.pinned (OpenSpec.ofChange digestJoinsWrong)

/- THE SECOND FORM. 'bulk': how many values and letters a reading holds, each counted each time it is reached (what is shared counts as often as it is met; a slice's spare places count too). A statement '..UptoSaid' is the law's where the arguments, and the package variables that the reading takes, are together of bulk at most 1048576: NARROWER than '..Said'. Prove '..Said' where nothing that the law and all that it calls make is longer than what came in: it says more and counts as full. Else prove '..UptoSaid'. A law counts once. -/
mutual
def uptoBulk {H : Type} : DataW H → Nat
  | .lit (.string bytes) => bytes.length + 1
  | .lit _ => 1
  | .nil => 1
  | .ptr d => uptoBulk d + 1
  | .slice elems spare => uptoBulkAll elems + uptoBulkAll spare + 1
  | .agg parts => uptoBulkAll parts + 1
  | .iface _ d => uptoBulk d + 1
  | .map entries => uptoBulkEntries entries + 1
  | .held _ => 1
def uptoBulkAll {H : Type} : List (DataW H) → Nat
  | [] => 0
  | d :: r => uptoBulk d + uptoBulkAll r
def uptoBulkEntries {H : Type} : List (Lit × DataW H) → Nat
  | [] => 0
  | x :: r => uptoBulkEntry x + uptoBulkEntries r
def uptoBulkEntry {H : Type} : Lit × DataW H → Nat
  | (.string bytes, d) => bytes.length + uptoBulk d + 1
  | (_, d) => uptoBulk d + 1
 end
def uptoSmall : (H : Type) → List (DataW H) → Bool := fun _ ds => decide (uptoBulkAll ds ≤ 1048576)
def OpenSpec.upto (s : _root_.Go.ChangeSpec) : _root_.Go.OpenSpec := { _root_.Go.OpenSpec.ofChange s with cond := some uptoSmall }

/-- 'lockboxlaw01.DigestBlocks', WHERE WHAT IT READS IS OF BULK AT MOST 1048576: true; the input reads as it did. -/
def digestBlocksUptoRow : OpenClaim := { program := "ytebdemkeoampbaa", sum := "e34f068a400420e970db9114a34d44a8c383ce3918ff95c8fcbd153fd22258ce", func := "lockbox/lockboxlaw01.DigestBlocks", spec := "digestBlocks", inPlace := ["internal/abi.NoEscape"], apart := false, narrowed := true }
def DigestBlocksUptoSaid : Prop := digestBlocksUptoRow.holds Try.pinned (OpenSpec.upto digestBlocksSpec)

/-- 'lockboxlaw01.DigestLong', WHERE WHAT IT READS IS OF BULK AT MOST 1048576: true; the input reads as it did. -/
def digestLongUptoRow : OpenClaim := { program := "ytebdemkeoampbaa", sum := "e34f068a400420e970db9114a34d44a8c383ce3918ff95c8fcbd153fd22258ce", func := "lockbox/lockboxlaw01.DigestLong", spec := "digestLong", inPlace := ["internal/abi.NoEscape"], apart := false, narrowed := true }
def DigestLongUptoSaid : Prop := digestLongUptoRow.holds Try.pinned (OpenSpec.upto digestLongSpec)

/-- 'lockboxlaw01.DigestSums', WHERE WHAT IT READS IS OF BULK AT MOST 1048576: true; the input reads as it did. -/
def digestSumsUptoRow : OpenClaim := { program := "ytebdemkeoampbaa", sum := "e34f068a400420e970db9114a34d44a8c383ce3918ff95c8fcbd153fd22258ce", func := "lockbox/lockboxlaw01.DigestSums", spec := "digestSums", inPlace := ["internal/abi.NoEscape"], apart := false, narrowed := true }
def DigestSumsUptoSaid : Prop := digestSumsUptoRow.holds Try.pinned (OpenSpec.upto digestSumsSpec)

/-- 'lockboxlaw01.DigestParts', WHERE WHAT IT READS IS OF BULK AT MOST 1048576: true; the input reads as it did. -/
def digestPartsUptoRow : OpenClaim := { program := "ytebdemkeoampbaa", sum := "e34f068a400420e970db9114a34d44a8c383ce3918ff95c8fcbd153fd22258ce", func := "lockbox/lockboxlaw01.DigestParts", spec := "digestParts", inPlace := ["internal/abi.NoEscape"], apart := false, narrowed := true }
def DigestPartsUptoSaid : Prop := digestPartsUptoRow.holds Try.pinned (OpenSpec.upto digestPartsSpec)

/-- 'lockboxlaw01.DigestForks', WHERE WHAT IT READS IS OF BULK AT MOST 1048576: true; the input reads as it did. -/
def digestForksUptoRow : OpenClaim := { program := "ytebdemkeoampbaa", sum := "e34f068a400420e970db9114a34d44a8c383ce3918ff95c8fcbd153fd22258ce", func := "lockbox/lockboxlaw01.DigestForks", spec := "digestForks", inPlace := ["internal/abi.NoEscape"], apart := false, narrowed := true }
def DigestForksUptoSaid : Prop := digestForksUptoRow.holds Try.pinned (OpenSpec.upto digestForksSpec)

/-- 'lockboxlaw01.DigestJoins', WHERE WHAT IT READS IS OF BULK AT MOST 1048576: true; the input reads as it did. -/
def digestJoinsUptoRow : OpenClaim := { program := "ytebdemkeoampbaa", sum := "e34f068a400420e970db9114a34d44a8c383ce3918ff95c8fcbd153fd22258ce", func := "lockbox/lockboxlaw01.DigestJoins", spec := "digestJoins", inPlace := ["internal/abi.NoEscape"], apart := false, narrowed := true }
def DigestJoinsUptoSaid : Prop := digestJoinsUptoRow.holds Try.pinned (OpenSpec.upto digestJoinsSpec)

end Rows
end Go.Proofs.Ytebdemkeoampbaa
