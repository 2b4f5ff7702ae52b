/-
  No cell of these rows narrows 'for every input' (looked for: loops, veiled, ifaces, maps, wideKeys, modest, calm, conditions, laid).
  DERIVED. THE GIVEN ROWS OF THIS SEAT. 12 by the template 'for every input the law returns true; each argument reads behind the call as it read before'; 0 by the template 'total and deterministic' (their statements: YtbllpgbmnapddaaTotals.lean).
  GIVEN WITH THE SEED: the statements are not yours to turn. If you find one false, say at which input.
  Laid BY PROGRAM, IN A SANDBOX (cutbox-rows.mjs): the forced cells as the released guide's own fill.sh prints them over the translation 27112f1d46cf2def… (all of the seat's roots in one cut). By AI agents, Wed Nov 11 2026. No macro, syntax, notation, axiom, sorry.
-/
import Derived.Test.YtbllpgbmnapddaaChecked
import GoSem.Claim
import GoSem.ClaimJoined
import GoSem.ClaimMapViews
import Derived.JoinedTies
import Derived.KernelRfl
namespace Go.Proofs.Ytbllpgbmnapddaa
/- THE CELL 'sum', in the pinned program and in every row, IS THE sha256 OF THE DUMP (.gsa) THAT YtbllpgbmnapddaaProg.lean LOADS. Nothing in Lean hashes anything: it is a label: what it is worth is what the hold of that sum in a sandbox is worth. -/
noncomputable def Try.pinned : Pinned := { name := "ytbllpgbmnapddaa", sum := "27112f1d46cf2def037000b319bf9b59d8f6ae18309c01095b718a219daca2f9", checked := Try.checked }
namespace Rows
def none {H : Type} : Left H := { results := [], args := [] }

/-- 'laws.FnExactIsMatrix': WHATEVER THE INPUT: true; the input reads as it did. -/
def fnExactIsMatrixSpec : ChangeSpec := { name := "fnExactIsMatrix", fn := fun _ => fun
  | [d] => { results := [.lit (.bool true)], args := [d] }
  | _ => none }
def fnExactIsMatrixRow : OpenClaim := { program := "ytbllpgbmnapddaa", sum := "27112f1d46cf2def037000b319bf9b59d8f6ae18309c01095b718a219daca2f9", func := "loop.example/g01132/laws.FnExactIsMatrix", spec := "fnExactIsMatrix", unfollowed := true, recurses := true, apart := false }
def FnExactIsMatrixSaid : Prop := fnExactIsMatrixRow.holds Try.pinned (OpenSpec.ofChange fnExactIsMatrixSpec)

/-- ITS FALSE NEIGHBOUR: 'it returns false'. Refute it at one input. -/
def fnExactIsMatrixWrong : ChangeSpec := { name := "fnExactIsMatrix", fn := fun _ => fun
  | [d] => { results := [.lit (.bool false)], args := [d] }
  | _ => none }
def FnExactIsMatrixWrongFalsely : Prop := fnExactIsMatrixRow.holds Try.pinned (OpenSpec.ofChange fnExactIsMatrixWrong)

/-- 'laws.FnExactTraceOf': WHATEVER THE INPUT: true; the input reads as it did. -/
def fnExactTraceOfSpec : ChangeSpec := { name := "fnExactTraceOf", fn := fun _ => fun
  | [d] => { results := [.lit (.bool true)], args := [d] }
  | _ => none }
def fnExactTraceOfRow : OpenClaim := { program := "ytbllpgbmnapddaa", sum := "27112f1d46cf2def037000b319bf9b59d8f6ae18309c01095b718a219daca2f9", func := "loop.example/g01132/laws.FnExactTraceOf", spec := "fnExactTraceOf", unfollowed := true, recurses := true, apart := false }
def FnExactTraceOfSaid : Prop := fnExactTraceOfRow.holds Try.pinned (OpenSpec.ofChange fnExactTraceOfSpec)

/-- ITS FALSE NEIGHBOUR: 'it returns false'. Refute it at one input. -/
def fnExactTraceOfWrong : ChangeSpec := { name := "fnExactTraceOf", fn := fun _ => fun
  | [d] => { results := [.lit (.bool false)], args := [d] }
  | _ => none }
def FnExactTraceOfWrongFalsely : Prop := fnExactTraceOfRow.holds Try.pinned (OpenSpec.ofChange fnExactTraceOfWrong)

/-- 'laws.FnExactApplyMatrix': WHATEVER THE INPUT: true; the input reads as it did. -/
def fnExactApplyMatrixSpec : ChangeSpec := { name := "fnExactApplyMatrix", fn := fun _ => fun
  | [d1, d2] => { results := [.lit (.bool true)], args := [d1, d2] }
  | _ => none }
def fnExactApplyMatrixRow : OpenClaim := { program := "ytbllpgbmnapddaa", sum := "27112f1d46cf2def037000b319bf9b59d8f6ae18309c01095b718a219daca2f9", func := "loop.example/g01132/laws.FnExactApplyMatrix", spec := "fnExactApplyMatrix", unfollowed := true, recurses := true, apart := false }
def FnExactApplyMatrixSaid : Prop := fnExactApplyMatrixRow.holds Try.pinned (OpenSpec.ofChange fnExactApplyMatrixSpec)

/-- ITS FALSE NEIGHBOUR: 'it returns false'. Refute it at one input. -/
def fnExactApplyMatrixWrong : ChangeSpec := { name := "fnExactApplyMatrix", fn := fun _ => fun
  | [d1, d2] => { results := [.lit (.bool false)], args := [d1, d2] }
  | _ => none }
def FnExactApplyMatrixWrongFalsely : Prop := fnExactApplyMatrixRow.holds Try.pinned (OpenSpec.ofChange fnExactApplyMatrixWrong)

/-- 'laws.FnExactTransposeMatrix': WHATEVER THE INPUT: true; the input reads as it did. -/
def fnExactTransposeMatrixSpec : ChangeSpec := { name := "fnExactTransposeMatrix", fn := fun _ => fun
  | [d] => { results := [.lit (.bool true)], args := [d] }
  | _ => none }
def fnExactTransposeMatrixRow : OpenClaim := { program := "ytbllpgbmnapddaa", sum := "27112f1d46cf2def037000b319bf9b59d8f6ae18309c01095b718a219daca2f9", func := "loop.example/g01132/laws.FnExactTransposeMatrix", spec := "fnExactTransposeMatrix", unfollowed := true, recurses := true, apart := false }
def FnExactTransposeMatrixSaid : Prop := fnExactTransposeMatrixRow.holds Try.pinned (OpenSpec.ofChange fnExactTransposeMatrixSpec)

/-- ITS FALSE NEIGHBOUR: 'it returns false'. Refute it at one input. -/
def fnExactTransposeMatrixWrong : ChangeSpec := { name := "fnExactTransposeMatrix", fn := fun _ => fun
  | [d] => { results := [.lit (.bool false)], args := [d] }
  | _ => none }
def FnExactTransposeMatrixWrongFalsely : Prop := fnExactTransposeMatrixRow.holds Try.pinned (OpenSpec.ofChange fnExactTransposeMatrixWrong)

/-- 'laws.FnExactMultiplyMatrices': WHATEVER THE INPUT: true; the input reads as it did. -/
def fnExactMultiplyMatricesSpec : ChangeSpec := { name := "fnExactMultiplyMatrices", fn := fun _ => fun
  | [d1, d2] => { results := [.lit (.bool true)], args := [d1, d2] }
  | _ => none }
def fnExactMultiplyMatricesRow : OpenClaim := { program := "ytbllpgbmnapddaa", sum := "27112f1d46cf2def037000b319bf9b59d8f6ae18309c01095b718a219daca2f9", func := "loop.example/g01132/laws.FnExactMultiplyMatrices", spec := "fnExactMultiplyMatrices", unfollowed := true, recurses := true, apart := false }
def FnExactMultiplyMatricesSaid : Prop := fnExactMultiplyMatricesRow.holds Try.pinned (OpenSpec.ofChange fnExactMultiplyMatricesSpec)

/-- ITS FALSE NEIGHBOUR: 'it returns false'. Refute it at one input. -/
def fnExactMultiplyMatricesWrong : ChangeSpec := { name := "fnExactMultiplyMatrices", fn := fun _ => fun
  | [d1, d2] => { results := [.lit (.bool false)], args := [d1, d2] }
  | _ => none }
def FnExactMultiplyMatricesWrongFalsely : Prop := fnExactMultiplyMatricesRow.holds Try.pinned (OpenSpec.ofChange fnExactMultiplyMatricesWrong)

/-- 'laws.FnExactRankOf': WHATEVER THE INPUT: true; the input reads as it did. -/
def fnExactRankOfSpec : ChangeSpec := { name := "fnExactRankOf", fn := fun _ => fun
  | [d] => { results := [.lit (.bool true)], args := [d] }
  | _ => none }
def fnExactRankOfRow : OpenClaim := { program := "ytbllpgbmnapddaa", sum := "27112f1d46cf2def037000b319bf9b59d8f6ae18309c01095b718a219daca2f9", func := "loop.example/g01132/laws.FnExactRankOf", spec := "fnExactRankOf", unfollowed := true, recurses := true, apart := false }
def FnExactRankOfSaid : Prop := fnExactRankOfRow.holds Try.pinned (OpenSpec.ofChange fnExactRankOfSpec)

/-- ITS FALSE NEIGHBOUR: 'it returns false'. Refute it at one input. -/
def fnExactRankOfWrong : ChangeSpec := { name := "fnExactRankOf", fn := fun _ => fun
  | [d] => { results := [.lit (.bool false)], args := [d] }
  | _ => none }
def FnExactRankOfWrongFalsely : Prop := fnExactRankOfRow.holds Try.pinned (OpenSpec.ofChange fnExactRankOfWrong)

/-- 'laws.FnExactDeterminant': WHATEVER THE INPUT: true; the input reads as it did. -/
def fnExactDeterminantSpec : ChangeSpec := { name := "fnExactDeterminant", fn := fun _ => fun
  | [d] => { results := [.lit (.bool true)], args := [d] }
  | _ => none }
def fnExactDeterminantRow : OpenClaim := { program := "ytbllpgbmnapddaa", sum := "27112f1d46cf2def037000b319bf9b59d8f6ae18309c01095b718a219daca2f9", func := "loop.example/g01132/laws.FnExactDeterminant", spec := "fnExactDeterminant", unfollowed := true, recurses := true, apart := false }
def FnExactDeterminantSaid : Prop := fnExactDeterminantRow.holds Try.pinned (OpenSpec.ofChange fnExactDeterminantSpec)

/-- ITS FALSE NEIGHBOUR: 'it returns false'. Refute it at one input. -/
def fnExactDeterminantWrong : ChangeSpec := { name := "fnExactDeterminant", fn := fun _ => fun
  | [d] => { results := [.lit (.bool false)], args := [d] }
  | _ => none }
def FnExactDeterminantWrongFalsely : Prop := fnExactDeterminantRow.holds Try.pinned (OpenSpec.ofChange fnExactDeterminantWrong)

/-- 'laws.FnExactSpanBasis': WHATEVER THE INPUT: true; the input reads as it did. -/
def fnExactSpanBasisSpec : ChangeSpec := { name := "fnExactSpanBasis", fn := fun _ => fun
  | [d] => { results := [.lit (.bool true)], args := [d] }
  | _ => none }
def fnExactSpanBasisRow : OpenClaim := { program := "ytbllpgbmnapddaa", sum := "27112f1d46cf2def037000b319bf9b59d8f6ae18309c01095b718a219daca2f9", func := "loop.example/g01132/laws.FnExactSpanBasis", spec := "fnExactSpanBasis", unfollowed := true, recurses := true, apart := false }
def FnExactSpanBasisSaid : Prop := fnExactSpanBasisRow.holds Try.pinned (OpenSpec.ofChange fnExactSpanBasisSpec)

/-- ITS FALSE NEIGHBOUR: 'it returns false'. Refute it at one input. -/
def fnExactSpanBasisWrong : ChangeSpec := { name := "fnExactSpanBasis", fn := fun _ => fun
  | [d] => { results := [.lit (.bool false)], args := [d] }
  | _ => none }
def FnExactSpanBasisWrongFalsely : Prop := fnExactSpanBasisRow.holds Try.pinned (OpenSpec.ofChange fnExactSpanBasisWrong)

/-- 'laws.FnExactPowerMatrix': WHATEVER THE INPUT: true; the input reads as it did. -/
def fnExactPowerMatrixSpec : ChangeSpec := { name := "fnExactPowerMatrix", fn := fun _ => fun
  | [d1, d2] => { results := [.lit (.bool true)], args := [d1, d2] }
  | _ => none }
def fnExactPowerMatrixRow : OpenClaim := { program := "ytbllpgbmnapddaa", sum := "27112f1d46cf2def037000b319bf9b59d8f6ae18309c01095b718a219daca2f9", func := "loop.example/g01132/laws.FnExactPowerMatrix", spec := "fnExactPowerMatrix", unfollowed := true, recurses := true, apart := false }
def FnExactPowerMatrixSaid : Prop := fnExactPowerMatrixRow.holds Try.pinned (OpenSpec.ofChange fnExactPowerMatrixSpec)

/-- ITS FALSE NEIGHBOUR: 'it returns false'. Refute it at one input. -/
def fnExactPowerMatrixWrong : ChangeSpec := { name := "fnExactPowerMatrix", fn := fun _ => fun
  | [d1, d2] => { results := [.lit (.bool false)], args := [d1, d2] }
  | _ => none }
def FnExactPowerMatrixWrongFalsely : Prop := fnExactPowerMatrixRow.holds Try.pinned (OpenSpec.ofChange fnExactPowerMatrixWrong)

/-- 'laws.FnExactKernelBasis': WHATEVER THE INPUT: true; the input reads as it did. -/
def fnExactKernelBasisSpec : ChangeSpec := { name := "fnExactKernelBasis", fn := fun _ => fun
  | [d] => { results := [.lit (.bool true)], args := [d] }
  | _ => none }
def fnExactKernelBasisRow : OpenClaim := { program := "ytbllpgbmnapddaa", sum := "27112f1d46cf2def037000b319bf9b59d8f6ae18309c01095b718a219daca2f9", func := "loop.example/g01132/laws.FnExactKernelBasis", spec := "fnExactKernelBasis", unfollowed := true, recurses := true, apart := false }
def FnExactKernelBasisSaid : Prop := fnExactKernelBasisRow.holds Try.pinned (OpenSpec.ofChange fnExactKernelBasisSpec)

/-- ITS FALSE NEIGHBOUR: 'it returns false'. Refute it at one input. -/
def fnExactKernelBasisWrong : ChangeSpec := { name := "fnExactKernelBasis", fn := fun _ => fun
  | [d] => { results := [.lit (.bool false)], args := [d] }
  | _ => none }
def FnExactKernelBasisWrongFalsely : Prop := fnExactKernelBasisRow.holds Try.pinned (OpenSpec.ofChange fnExactKernelBasisWrong)

/-- 'laws.FnExactInverseMatrix': WHATEVER THE INPUT: true; the input reads as it did. -/
def fnExactInverseMatrixSpec : ChangeSpec := { name := "fnExactInverseMatrix", fn := fun _ => fun
  | [d] => { results := [.lit (.bool true)], args := [d] }
  | _ => none }
def fnExactInverseMatrixRow : OpenClaim := { program := "ytbllpgbmnapddaa", sum := "27112f1d46cf2def037000b319bf9b59d8f6ae18309c01095b718a219daca2f9", func := "loop.example/g01132/laws.FnExactInverseMatrix", spec := "fnExactInverseMatrix", unfollowed := true, recurses := true, apart := false }
def FnExactInverseMatrixSaid : Prop := fnExactInverseMatrixRow.holds Try.pinned (OpenSpec.ofChange fnExactInverseMatrixSpec)

/-- ITS FALSE NEIGHBOUR: 'it returns false'. Refute it at one input. -/
def fnExactInverseMatrixWrong : ChangeSpec := { name := "fnExactInverseMatrix", fn := fun _ => fun
  | [d] => { results := [.lit (.bool false)], args := [d] }
  | _ => none }
def FnExactInverseMatrixWrongFalsely : Prop := fnExactInverseMatrixRow.holds Try.pinned (OpenSpec.ofChange fnExactInverseMatrixWrong)

/-- 'laws.FnMatrices': WHATEVER THE INPUT: true; the input reads as it did. -/
def fnMatricesSpec : ChangeSpec := { name := "fnMatrices", fn := fun _ => fun
  | [d] => { results := [.lit (.bool true)], args := [d] }
  | _ => none }
def fnMatricesRow : OpenClaim := { program := "ytbllpgbmnapddaa", sum := "27112f1d46cf2def037000b319bf9b59d8f6ae18309c01095b718a219daca2f9", func := "loop.example/g01132/laws.FnMatrices", spec := "fnMatrices", unfollowed := true, recurses := true, apart := false }
def FnMatricesSaid : Prop := fnMatricesRow.holds Try.pinned (OpenSpec.ofChange fnMatricesSpec)

/-- ITS FALSE NEIGHBOUR: 'it returns false'. Refute it at one input. -/
def fnMatricesWrong : ChangeSpec := { name := "fnMatrices", fn := fun _ => fun
  | [d] => { results := [.lit (.bool false)], args := [d] }
  | _ => none }
def FnMatricesWrongFalsely : Prop := fnMatricesRow.holds Try.pinned (OpenSpec.ofChange fnMatricesWrong)

/- THE SECOND FORM. 'bulk': how many values and letters a reading holds, each counted each time it is reached (what is shared counts as often as it is met; a slice's spare places count too). A statement '..UptoSaid' is the law's where the arguments, and the package variables that the reading takes, are together of bulk at most 1048576: NARROWER than '..Said'. Prove '..Said' where nothing that the law and all that it calls make is longer than what came in: it says more and counts as full. Else prove '..UptoSaid'. A law counts once. -/
mutual
def uptoBulk {H : Type} : DataW H → Nat
  | .lit (.string bytes) => bytes.length + 1
  | .lit _ => 1
  | .nil => 1
  | .ptr d => uptoBulk d + 1
  | .slice elems spare => uptoBulkAll elems + uptoBulkAll spare + 1
  | .agg parts => uptoBulkAll parts + 1
  | .iface _ d => uptoBulk d + 1
  | .map entries => uptoBulkEntries entries + 1
  | .held _ => 1
def uptoBulkAll {H : Type} : List (DataW H) → Nat
  | [] => 0
  | d :: r => uptoBulk d + uptoBulkAll r
def uptoBulkEntries {H : Type} : List (Lit × DataW H) → Nat
  | [] => 0
  | x :: r => uptoBulkEntry x + uptoBulkEntries r
def uptoBulkEntry {H : Type} : Lit × DataW H → Nat
  | (.string bytes, d) => bytes.length + uptoBulk d + 1
  | (_, d) => uptoBulk d + 1
 end
def uptoSmall : (H : Type) → List (DataW H) → Bool := fun _ ds => decide (uptoBulkAll ds ≤ 1048576)
def OpenSpec.upto (s : _root_.Go.ChangeSpec) : _root_.Go.OpenSpec := { _root_.Go.OpenSpec.ofChange s with cond := some uptoSmall }

/-- 'laws.FnExactIsMatrix', WHERE WHAT IT READS IS OF BULK AT MOST 1048576: true; the input reads as it did. -/
def fnExactIsMatrixUptoRow : OpenClaim := { program := "ytbllpgbmnapddaa", sum := "27112f1d46cf2def037000b319bf9b59d8f6ae18309c01095b718a219daca2f9", func := "loop.example/g01132/laws.FnExactIsMatrix", spec := "fnExactIsMatrix", unfollowed := true, recurses := true, apart := false, narrowed := true }
def FnExactIsMatrixUptoSaid : Prop := fnExactIsMatrixUptoRow.holds Try.pinned (OpenSpec.upto fnExactIsMatrixSpec)

/-- 'laws.FnExactTraceOf', WHERE WHAT IT READS IS OF BULK AT MOST 1048576: true; the input reads as it did. -/
def fnExactTraceOfUptoRow : OpenClaim := { program := "ytbllpgbmnapddaa", sum := "27112f1d46cf2def037000b319bf9b59d8f6ae18309c01095b718a219daca2f9", func := "loop.example/g01132/laws.FnExactTraceOf", spec := "fnExactTraceOf", unfollowed := true, recurses := true, apart := false, narrowed := true }
def FnExactTraceOfUptoSaid : Prop := fnExactTraceOfUptoRow.holds Try.pinned (OpenSpec.upto fnExactTraceOfSpec)

/-- 'laws.FnExactApplyMatrix', WHERE WHAT IT READS IS OF BULK AT MOST 1048576: true; the input reads as it did. -/
def fnExactApplyMatrixUptoRow : OpenClaim := { program := "ytbllpgbmnapddaa", sum := "27112f1d46cf2def037000b319bf9b59d8f6ae18309c01095b718a219daca2f9", func := "loop.example/g01132/laws.FnExactApplyMatrix", spec := "fnExactApplyMatrix", unfollowed := true, recurses := true, apart := false, narrowed := true }
def FnExactApplyMatrixUptoSaid : Prop := fnExactApplyMatrixUptoRow.holds Try.pinned (OpenSpec.upto fnExactApplyMatrixSpec)

/-- 'laws.FnExactTransposeMatrix', WHERE WHAT IT READS IS OF BULK AT MOST 1048576: true; the input reads as it did. -/
def fnExactTransposeMatrixUptoRow : OpenClaim := { program := "ytbllpgbmnapddaa", sum := "27112f1d46cf2def037000b319bf9b59d8f6ae18309c01095b718a219daca2f9", func := "loop.example/g01132/laws.FnExactTransposeMatrix", spec := "fnExactTransposeMatrix", unfollowed := true, recurses := true, apart := false, narrowed := true }
def FnExactTransposeMatrixUptoSaid : Prop := fnExactTransposeMatrixUptoRow.holds Try.pinned (OpenSpec.upto fnExactTransposeMatrixSpec)

/-- 'laws.FnExactMultiplyMatrices', WHERE WHAT IT READS IS OF BULK AT MOST 1048576: true; the input reads as it did. -/
def fnExactMultiplyMatricesUptoRow : OpenClaim := { program := "ytbllpgbmnapddaa", sum := "27112f1d46cf2def037000b319bf9b59d8f6ae18309c01095b718a219daca2f9", func := "loop.example/g01132/laws.FnExactMultiplyMatrices", spec := "fnExactMultiplyMatrices", unfollowed := true, recurses := true, apart := false, narrowed := true }
def FnExactMultiplyMatricesUptoSaid : Prop := fnExactMultiplyMatricesUptoRow.holds Try.pinned (OpenSpec.upto fnExactMultiplyMatricesSpec)

/-- 'laws.FnExactRankOf', WHERE WHAT IT READS IS OF BULK AT MOST 1048576: true; the input reads as it did. -/
def fnExactRankOfUptoRow : OpenClaim := { program := "ytbllpgbmnapddaa", sum := "27112f1d46cf2def037000b319bf9b59d8f6ae18309c01095b718a219daca2f9", func := "loop.example/g01132/laws.FnExactRankOf", spec := "fnExactRankOf", unfollowed := true, recurses := true, apart := false, narrowed := true }
def FnExactRankOfUptoSaid : Prop := fnExactRankOfUptoRow.holds Try.pinned (OpenSpec.upto fnExactRankOfSpec)

/-- 'laws.FnExactDeterminant', WHERE WHAT IT READS IS OF BULK AT MOST 1048576: true; the input reads as it did. -/
def fnExactDeterminantUptoRow : OpenClaim := { program := "ytbllpgbmnapddaa", sum := "27112f1d46cf2def037000b319bf9b59d8f6ae18309c01095b718a219daca2f9", func := "loop.example/g01132/laws.FnExactDeterminant", spec := "fnExactDeterminant", unfollowed := true, recurses := true, apart := false, narrowed := true }
def FnExactDeterminantUptoSaid : Prop := fnExactDeterminantUptoRow.holds Try.pinned (OpenSpec.upto fnExactDeterminantSpec)

/-- 'laws.FnExactSpanBasis', WHERE WHAT IT READS IS OF BULK AT MOST 1048576: true; the input reads as it did. -/
def fnExactSpanBasisUptoRow : OpenClaim := { program := "ytbllpgbmnapddaa", sum := "27112f1d46cf2def037000b319bf9b59d8f6ae18309c01095b718a219daca2f9", func := "loop.example/g01132/laws.FnExactSpanBasis", spec := "fnExactSpanBasis", unfollowed := true, recurses := true, apart := false, narrowed := true }
def FnExactSpanBasisUptoSaid : Prop := fnExactSpanBasisUptoRow.holds Try.pinned (OpenSpec.upto fnExactSpanBasisSpec)

/-- 'laws.FnExactPowerMatrix', WHERE WHAT IT READS IS OF BULK AT MOST 1048576: true; the input reads as it did. -/
def fnExactPowerMatrixUptoRow : OpenClaim := { program := "ytbllpgbmnapddaa", sum := "27112f1d46cf2def037000b319bf9b59d8f6ae18309c01095b718a219daca2f9", func := "loop.example/g01132/laws.FnExactPowerMatrix", spec := "fnExactPowerMatrix", unfollowed := true, recurses := true, apart := false, narrowed := true }
def FnExactPowerMatrixUptoSaid : Prop := fnExactPowerMatrixUptoRow.holds Try.pinned (OpenSpec.upto fnExactPowerMatrixSpec)

/-- 'laws.FnExactKernelBasis', WHERE WHAT IT READS IS OF BULK AT MOST 1048576: true; the input reads as it did. -/
def fnExactKernelBasisUptoRow : OpenClaim := { program := "ytbllpgbmnapddaa", sum := "27112f1d46cf2def037000b319bf9b59d8f6ae18309c01095b718a219daca2f9", func := "loop.example/g01132/laws.FnExactKernelBasis", spec := "fnExactKernelBasis", unfollowed := true, recurses := true, apart := false, narrowed := true }
def FnExactKernelBasisUptoSaid : Prop := fnExactKernelBasisUptoRow.holds Try.pinned (OpenSpec.upto fnExactKernelBasisSpec)

/-- 'laws.FnExactInverseMatrix', WHERE WHAT IT READS IS OF BULK AT MOST 1048576: true; the input reads as it did. -/
def fnExactInverseMatrixUptoRow : OpenClaim := { program := "ytbllpgbmnapddaa", sum := "27112f1d46cf2def037000b319bf9b59d8f6ae18309c01095b718a219daca2f9", func := "loop.example/g01132/laws.FnExactInverseMatrix", spec := "fnExactInverseMatrix", unfollowed := true, recurses := true, apart := false, narrowed := true }
def FnExactInverseMatrixUptoSaid : Prop := fnExactInverseMatrixUptoRow.holds Try.pinned (OpenSpec.upto fnExactInverseMatrixSpec)

/-- 'laws.FnMatrices', WHERE WHAT IT READS IS OF BULK AT MOST 1048576: true; the input reads as it did. -/
def fnMatricesUptoRow : OpenClaim := { program := "ytbllpgbmnapddaa", sum := "27112f1d46cf2def037000b319bf9b59d8f6ae18309c01095b718a219daca2f9", func := "loop.example/g01132/laws.FnMatrices", spec := "fnMatrices", unfollowed := true, recurses := true, apart := false, narrowed := true }
def FnMatricesUptoSaid : Prop := fnMatricesUptoRow.holds Try.pinned (OpenSpec.upto fnMatricesSpec)

end Rows
end Go.Proofs.Ytbllpgbmnapddaa
