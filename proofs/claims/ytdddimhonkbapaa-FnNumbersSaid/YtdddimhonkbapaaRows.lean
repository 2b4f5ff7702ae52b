/-
  No cell of these rows narrows 'for every input' (looked for: loops, veiled, ifaces, maps, wideKeys, modest, calm, conditions, laid).
  DERIVED. THE GIVEN ROWS OF THIS SEAT. 5 by the template 'for every input the law returns true; each argument reads behind the call as it read before'; 0 by the template 'total and deterministic' (their statements: YtdddimhonkbapaaTotals.lean).
  GIVEN WITH THE SEED: the statements are not yours to turn. If you find one false, say at which input.
  Laid BY PROGRAM, IN A SANDBOX (cutbox-rows.mjs): the forced cells as the released guide's own fill.sh prints them over the translation 67a8f3cb70972ec8… (all of the seat's roots in one cut). By AI agents, Wed Nov 11 2026. No macro, syntax, notation, axiom, sorry.
-/
import Derived.Test.YtdddimhonkbapaaChecked
import GoSem.Claim
import GoSem.ClaimJoined
import GoSem.ClaimMapViews
import Derived.JoinedTies
import Derived.KernelRfl
namespace Go.Proofs.Ytdddimhonkbapaa
/- THE CELL 'sum', in the pinned program and in every row, IS THE sha256 OF THE DUMP (.gsa) THAT YtdddimhonkbapaaProg.lean LOADS. Nothing in Lean hashes anything: it is a label: what it is worth is what the hold of that sum in a sandbox is worth. -/
noncomputable def Try.pinned : Pinned := { name := "ytdddimhonkbapaa", sum := "67a8f3cb70972ec848305a0f8f3645467bb968cc9d37762faabe5597f7afad21", checked := Try.checked }
namespace Rows
def none {H : Type} : Left H := { results := [], args := [] }

/-- 'laws.FnExactLogarithmOf': WHATEVER THE INPUT: true; the input reads as it did. -/
def fnExactLogarithmOfSpec : ChangeSpec := { name := "fnExactLogarithmOf", fn := fun _ => fun
  | [d] => { results := [.lit (.bool true)], args := [d] }
  | _ => none }
def fnExactLogarithmOfRow : OpenClaim := { program := "ytdddimhonkbapaa", sum := "67a8f3cb70972ec848305a0f8f3645467bb968cc9d37762faabe5597f7afad21", func := "loop.example/g01132/laws.FnExactLogarithmOf", spec := "fnExactLogarithmOf", apart := false }
def FnExactLogarithmOfSaid : Prop := fnExactLogarithmOfRow.holds Try.pinned (OpenSpec.ofChange fnExactLogarithmOfSpec)

/-- ITS FALSE NEIGHBOUR: 'it returns false'. Refute it at one input. -/
def fnExactLogarithmOfWrong : ChangeSpec := { name := "fnExactLogarithmOf", fn := fun _ => fun
  | [d] => { results := [.lit (.bool false)], args := [d] }
  | _ => none }
def FnExactLogarithmOfWrongFalsely : Prop := fnExactLogarithmOfRow.holds Try.pinned (OpenSpec.ofChange fnExactLogarithmOfWrong)

/-- 'laws.FnExactOrderOfNumber': WHATEVER THE INPUT: true; the input reads as it did. -/
def fnExactOrderOfNumberSpec : ChangeSpec := { name := "fnExactOrderOfNumber", fn := fun _ => fun
  | [d] => { results := [.lit (.bool true)], args := [d] }
  | _ => none }
def fnExactOrderOfNumberRow : OpenClaim := { program := "ytdddimhonkbapaa", sum := "67a8f3cb70972ec848305a0f8f3645467bb968cc9d37762faabe5597f7afad21", func := "loop.example/g01132/laws.FnExactOrderOfNumber", spec := "fnExactOrderOfNumber", apart := false }
def FnExactOrderOfNumberSaid : Prop := fnExactOrderOfNumberRow.holds Try.pinned (OpenSpec.ofChange fnExactOrderOfNumberSpec)

/-- ITS FALSE NEIGHBOUR: 'it returns false'. Refute it at one input. -/
def fnExactOrderOfNumberWrong : ChangeSpec := { name := "fnExactOrderOfNumber", fn := fun _ => fun
  | [d] => { results := [.lit (.bool false)], args := [d] }
  | _ => none }
def FnExactOrderOfNumberWrongFalsely : Prop := fnExactOrderOfNumberRow.holds Try.pinned (OpenSpec.ofChange fnExactOrderOfNumberWrong)

/-- 'laws.FnExactDotOf': WHATEVER THE INPUT: true; the input reads as it did. -/
def fnExactDotOfSpec : ChangeSpec := { name := "fnExactDotOf", fn := fun _ => fun
  | [d1, d2] => { results := [.lit (.bool true)], args := [d1, d2] }
  | _ => none }
def fnExactDotOfRow : OpenClaim := { program := "ytdddimhonkbapaa", sum := "67a8f3cb70972ec848305a0f8f3645467bb968cc9d37762faabe5597f7afad21", func := "loop.example/g01132/laws.FnExactDotOf", spec := "fnExactDotOf", unfollowed := true, recurses := true, apart := false }
def FnExactDotOfSaid : Prop := fnExactDotOfRow.holds Try.pinned (OpenSpec.ofChange fnExactDotOfSpec)

/-- ITS FALSE NEIGHBOUR: 'it returns false'. Refute it at one input. -/
def fnExactDotOfWrong : ChangeSpec := { name := "fnExactDotOf", fn := fun _ => fun
  | [d1, d2] => { results := [.lit (.bool false)], args := [d1, d2] }
  | _ => none }
def FnExactDotOfWrongFalsely : Prop := fnExactDotOfRow.holds Try.pinned (OpenSpec.ofChange fnExactDotOfWrong)

/-- 'laws.FnNumbers': WHATEVER THE INPUT: true; the input reads as it did. -/
def fnNumbersSpec : ChangeSpec := { name := "fnNumbers", fn := fun _ => fun
  | [d] => { results := [.lit (.bool true)], args := [d] }
  | _ => none }
def fnNumbersRow : OpenClaim := { program := "ytdddimhonkbapaa", sum := "67a8f3cb70972ec848305a0f8f3645467bb968cc9d37762faabe5597f7afad21", func := "loop.example/g01132/laws.FnNumbers", spec := "fnNumbers", unfollowed := true, recurses := true, apart := false }
def FnNumbersSaid : Prop := fnNumbersRow.holds Try.pinned (OpenSpec.ofChange fnNumbersSpec)

/-- ITS FALSE NEIGHBOUR: 'it returns false'. Refute it at one input. -/
def fnNumbersWrong : ChangeSpec := { name := "fnNumbers", fn := fun _ => fun
  | [d] => { results := [.lit (.bool false)], args := [d] }
  | _ => none }
def FnNumbersWrongFalsely : Prop := fnNumbersRow.holds Try.pinned (OpenSpec.ofChange fnNumbersWrong)

/-- 'laws.FnOrders': WHATEVER THE INPUT: true; the input reads as it did. -/
def fnOrdersSpec : ChangeSpec := { name := "fnOrders", fn := fun _ => fun
  | [d] => { results := [.lit (.bool true)], args := [d] }
  | _ => none }
def fnOrdersRow : OpenClaim := { program := "ytdddimhonkbapaa", sum := "67a8f3cb70972ec848305a0f8f3645467bb968cc9d37762faabe5597f7afad21", func := "loop.example/g01132/laws.FnOrders", spec := "fnOrders", apart := false }
def FnOrdersSaid : Prop := fnOrdersRow.holds Try.pinned (OpenSpec.ofChange fnOrdersSpec)

/-- ITS FALSE NEIGHBOUR: 'it returns false'. Refute it at one input. -/
def fnOrdersWrong : ChangeSpec := { name := "fnOrders", fn := fun _ => fun
  | [d] => { results := [.lit (.bool false)], args := [d] }
  | _ => none }
def FnOrdersWrongFalsely : Prop := fnOrdersRow.holds Try.pinned (OpenSpec.ofChange fnOrdersWrong)

/- THE SECOND FORM. 'bulk': how many values and letters a reading holds, each counted each time it is reached (what is shared counts as often as it is met; a slice's spare places count too). A statement '..UptoSaid' is the law's where the arguments, and the package variables that the reading takes, are together of bulk at most 1048576: NARROWER than '..Said'. Prove '..Said' where nothing that the law and all that it calls make is longer than what came in: it says more and counts as full. Else prove '..UptoSaid'. A law counts once. -/
mutual
def uptoBulk {H : Type} : DataW H → Nat
  | .lit (.string bytes) => bytes.length + 1
  | .lit _ => 1
  | .nil => 1
  | .ptr d => uptoBulk d + 1
  | .slice elems spare => uptoBulkAll elems + uptoBulkAll spare + 1
  | .agg parts => uptoBulkAll parts + 1
  | .iface _ d => uptoBulk d + 1
  | .map entries => uptoBulkEntries entries + 1
  | .held _ => 1
def uptoBulkAll {H : Type} : List (DataW H) → Nat
  | [] => 0
  | d :: r => uptoBulk d + uptoBulkAll r
def uptoBulkEntries {H : Type} : List (Lit × DataW H) → Nat
  | [] => 0
  | x :: r => uptoBulkEntry x + uptoBulkEntries r
def uptoBulkEntry {H : Type} : Lit × DataW H → Nat
  | (.string bytes, d) => bytes.length + uptoBulk d + 1
  | (_, d) => uptoBulk d + 1
 end
def uptoSmall : (H : Type) → List (DataW H) → Bool := fun _ ds => decide (uptoBulkAll ds ≤ 1048576)
def OpenSpec.upto (s : _root_.Go.ChangeSpec) : _root_.Go.OpenSpec := { _root_.Go.OpenSpec.ofChange s with cond := some uptoSmall }

/-- 'laws.FnExactLogarithmOf', WHERE WHAT IT READS IS OF BULK AT MOST 1048576: true; the input reads as it did. -/
def fnExactLogarithmOfUptoRow : OpenClaim := { program := "ytdddimhonkbapaa", sum := "67a8f3cb70972ec848305a0f8f3645467bb968cc9d37762faabe5597f7afad21", func := "loop.example/g01132/laws.FnExactLogarithmOf", spec := "fnExactLogarithmOf", apart := false, narrowed := true }
def FnExactLogarithmOfUptoSaid : Prop := fnExactLogarithmOfUptoRow.holds Try.pinned (OpenSpec.upto fnExactLogarithmOfSpec)

/-- 'laws.FnExactOrderOfNumber', WHERE WHAT IT READS IS OF BULK AT MOST 1048576: true; the input reads as it did. -/
def fnExactOrderOfNumberUptoRow : OpenClaim := { program := "ytdddimhonkbapaa", sum := "67a8f3cb70972ec848305a0f8f3645467bb968cc9d37762faabe5597f7afad21", func := "loop.example/g01132/laws.FnExactOrderOfNumber", spec := "fnExactOrderOfNumber", apart := false, narrowed := true }
def FnExactOrderOfNumberUptoSaid : Prop := fnExactOrderOfNumberUptoRow.holds Try.pinned (OpenSpec.upto fnExactOrderOfNumberSpec)

/-- 'laws.FnExactDotOf', WHERE WHAT IT READS IS OF BULK AT MOST 1048576: true; the input reads as it did. -/
def fnExactDotOfUptoRow : OpenClaim := { program := "ytdddimhonkbapaa", sum := "67a8f3cb70972ec848305a0f8f3645467bb968cc9d37762faabe5597f7afad21", func := "loop.example/g01132/laws.FnExactDotOf", spec := "fnExactDotOf", unfollowed := true, recurses := true, apart := false, narrowed := true }
def FnExactDotOfUptoSaid : Prop := fnExactDotOfUptoRow.holds Try.pinned (OpenSpec.upto fnExactDotOfSpec)

/-- 'laws.FnNumbers', WHERE WHAT IT READS IS OF BULK AT MOST 1048576: true; the input reads as it did. -/
def fnNumbersUptoRow : OpenClaim := { program := "ytdddimhonkbapaa", sum := "67a8f3cb70972ec848305a0f8f3645467bb968cc9d37762faabe5597f7afad21", func := "loop.example/g01132/laws.FnNumbers", spec := "fnNumbers", unfollowed := true, recurses := true, apart := false, narrowed := true }
def FnNumbersUptoSaid : Prop := fnNumbersUptoRow.holds Try.pinned (OpenSpec.upto fnNumbersSpec)

/-- 'laws.FnOrders', WHERE WHAT IT READS IS OF BULK AT MOST 1048576: true; the input reads as it did. -/
def fnOrdersUptoRow : OpenClaim := { program := "ytdddimhonkbapaa", sum := "67a8f3cb70972ec848305a0f8f3645467bb968cc9d37762faabe5597f7afad21", func := "loop.example/g01132/laws.FnOrders", spec := "fnOrders", apart := false, narrowed := true }
def FnOrdersUptoSaid : Prop := fnOrdersUptoRow.holds Try.pinned (OpenSpec.upto fnOrdersSpec)

end Rows
end Go.Proofs.Ytdddimhonkbapaa
