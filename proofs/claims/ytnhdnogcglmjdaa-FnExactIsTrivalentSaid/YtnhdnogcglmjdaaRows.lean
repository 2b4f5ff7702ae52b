/-
  No cell of these rows narrows 'for every input' (looked for: loops, veiled, ifaces, maps, wideKeys, modest, calm, conditions, laid).
  DERIVED. THE GIVEN ROWS OF THIS SEAT. 10 by the template 'for every input the law returns true; each argument reads behind the call as it read before'; 0 by the template 'total and deterministic' (their statements: YtnhdnogcglmjdaaTotals.lean).
  GIVEN WITH THE SEED: the statements are not yours to turn. If you find one false, say at which input.
  Laid BY PROGRAM, IN A SANDBOX (cutbox-rows.mjs): the forced cells as the released guide's own fill.sh prints them over the translation 197cbe96a2cb888a… (all of the seat's roots in one cut). By AI agents, Wed Nov 11 2026. No macro, syntax, notation, axiom, sorry.
-/
import Derived.Test.YtnhdnogcglmjdaaChecked
import GoSem.Claim
import GoSem.ClaimJoined
import GoSem.ClaimMapViews
import Derived.JoinedTies
import Derived.KernelRfl
namespace Go.Proofs.Ytnhdnogcglmjdaa
/- THE CELL 'sum', in the pinned program and in every row, IS THE sha256 OF THE DUMP (.gsa) THAT YtnhdnogcglmjdaaProg.lean LOADS. Nothing in Lean hashes anything: it is a label: what it is worth is what the hold of that sum in a sandbox is worth. -/
noncomputable def Try.pinned : Pinned := { name := "ytnhdnogcglmjdaa", sum := "197cbe96a2cb888a01abee8b316f4210ae30a33b6d8282c91ef01e8fd7d93354", checked := Try.checked }
namespace Rows
def none {H : Type} : Left H := { results := [], args := [] }

/-- 'laws.FnExactIsTrivalent': WHATEVER THE INPUT: true; the input reads as it did. -/
def fnExactIsTrivalentSpec : ChangeSpec := { name := "fnExactIsTrivalent", fn := fun _ => fun
  | [d] => { results := [.lit (.bool true)], args := [d] }
  | _ => none }
def fnExactIsTrivalentRow : OpenClaim := { program := "ytnhdnogcglmjdaa", sum := "197cbe96a2cb888a01abee8b316f4210ae30a33b6d8282c91ef01e8fd7d93354", func := "loop.example/g01132/laws.FnExactIsTrivalent", spec := "fnExactIsTrivalent", apart := false }
def FnExactIsTrivalentSaid : Prop := fnExactIsTrivalentRow.holds Try.pinned (OpenSpec.ofChange fnExactIsTrivalentSpec)

/-- ITS FALSE NEIGHBOUR: 'it returns false'. Refute it at one input. -/
def fnExactIsTrivalentWrong : ChangeSpec := { name := "fnExactIsTrivalent", fn := fun _ => fun
  | [d] => { results := [.lit (.bool false)], args := [d] }
  | _ => none }
def FnExactIsTrivalentWrongFalsely : Prop := fnExactIsTrivalentRow.holds Try.pinned (OpenSpec.ofChange fnExactIsTrivalentWrong)

/-- 'laws.FnExactIsConnectedGraph': WHATEVER THE INPUT: true; the input reads as it did. -/
def fnExactIsConnectedGraphSpec : ChangeSpec := { name := "fnExactIsConnectedGraph", fn := fun _ => fun
  | [d] => { results := [.lit (.bool true)], args := [d] }
  | _ => none }
def fnExactIsConnectedGraphRow : OpenClaim := { program := "ytnhdnogcglmjdaa", sum := "197cbe96a2cb888a01abee8b316f4210ae30a33b6d8282c91ef01e8fd7d93354", func := "loop.example/g01132/laws.FnExactIsConnectedGraph", spec := "fnExactIsConnectedGraph", unfollowed := true, recurses := true, apart := false }
def FnExactIsConnectedGraphSaid : Prop := fnExactIsConnectedGraphRow.holds Try.pinned (OpenSpec.ofChange fnExactIsConnectedGraphSpec)

/-- ITS FALSE NEIGHBOUR: 'it returns false'. Refute it at one input. -/
def fnExactIsConnectedGraphWrong : ChangeSpec := { name := "fnExactIsConnectedGraph", fn := fun _ => fun
  | [d] => { results := [.lit (.bool false)], args := [d] }
  | _ => none }
def FnExactIsConnectedGraphWrongFalsely : Prop := fnExactIsConnectedGraphRow.holds Try.pinned (OpenSpec.ofChange fnExactIsConnectedGraphWrong)

/-- 'laws.FnExactEvenSpinRing': WHATEVER THE INPUT: true; the input reads as it did. -/
def fnExactEvenSpinRingSpec : ChangeSpec := { name := "fnExactEvenSpinRing", fn := fun _ => fun
  | [d] => { results := [.lit (.bool true)], args := [d] }
  | _ => none }
def fnExactEvenSpinRingRow : OpenClaim := { program := "ytnhdnogcglmjdaa", sum := "197cbe96a2cb888a01abee8b316f4210ae30a33b6d8282c91ef01e8fd7d93354", func := "loop.example/g01132/laws.FnExactEvenSpinRing", spec := "fnExactEvenSpinRing", apart := false }
def FnExactEvenSpinRingSaid : Prop := fnExactEvenSpinRingRow.holds Try.pinned (OpenSpec.ofChange fnExactEvenSpinRingSpec)

/-- ITS FALSE NEIGHBOUR: 'it returns false'. Refute it at one input. -/
def fnExactEvenSpinRingWrong : ChangeSpec := { name := "fnExactEvenSpinRing", fn := fun _ => fun
  | [d] => { results := [.lit (.bool false)], args := [d] }
  | _ => none }
def FnExactEvenSpinRingWrongFalsely : Prop := fnExactEvenSpinRingRow.holds Try.pinned (OpenSpec.ofChange fnExactEvenSpinRingWrong)

/-- 'laws.FnExactSpinRing': WHATEVER THE INPUT: true; the input reads as it did. -/
def fnExactSpinRingSpec : ChangeSpec := { name := "fnExactSpinRing", fn := fun _ => fun
  | [d] => { results := [.lit (.bool true)], args := [d] }
  | _ => none }
def fnExactSpinRingRow : OpenClaim := { program := "ytnhdnogcglmjdaa", sum := "197cbe96a2cb888a01abee8b316f4210ae30a33b6d8282c91ef01e8fd7d93354", func := "loop.example/g01132/laws.FnExactSpinRing", spec := "fnExactSpinRing", apart := false }
def FnExactSpinRingSaid : Prop := fnExactSpinRingRow.holds Try.pinned (OpenSpec.ofChange fnExactSpinRingSpec)

/-- ITS FALSE NEIGHBOUR: 'it returns false'. Refute it at one input. -/
def fnExactSpinRingWrong : ChangeSpec := { name := "fnExactSpinRing", fn := fun _ => fun
  | [d] => { results := [.lit (.bool false)], args := [d] }
  | _ => none }
def FnExactSpinRingWrongFalsely : Prop := fnExactSpinRingRow.holds Try.pinned (OpenSpec.ofChange fnExactSpinRingWrong)

/-- 'laws.FnExactDihedralGroupRing': WHATEVER THE INPUT: true; the input reads as it did. -/
def fnExactDihedralGroupRingSpec : ChangeSpec := { name := "fnExactDihedralGroupRing", fn := fun _ => fun
  | [d] => { results := [.lit (.bool true)], args := [d] }
  | _ => none }
def fnExactDihedralGroupRingRow : OpenClaim := { program := "ytnhdnogcglmjdaa", sum := "197cbe96a2cb888a01abee8b316f4210ae30a33b6d8282c91ef01e8fd7d93354", func := "loop.example/g01132/laws.FnExactDihedralGroupRing", spec := "fnExactDihedralGroupRing", unfollowed := true, recurses := true, apart := false }
def FnExactDihedralGroupRingSaid : Prop := fnExactDihedralGroupRingRow.holds Try.pinned (OpenSpec.ofChange fnExactDihedralGroupRingSpec)

/-- ITS FALSE NEIGHBOUR: 'it returns false'. Refute it at one input. -/
def fnExactDihedralGroupRingWrong : ChangeSpec := { name := "fnExactDihedralGroupRing", fn := fun _ => fun
  | [d] => { results := [.lit (.bool false)], args := [d] }
  | _ => none }
def FnExactDihedralGroupRingWrongFalsely : Prop := fnExactDihedralGroupRingRow.holds Try.pinned (OpenSpec.ofChange fnExactDihedralGroupRingWrong)

/-- 'laws.FnExactGroupRing': WHATEVER THE INPUT: true; the input reads as it did. -/
def fnExactGroupRingSpec : ChangeSpec := { name := "fnExactGroupRing", fn := fun _ => fun
  | [d] => { results := [.lit (.bool true)], args := [d] }
  | _ => none }
def fnExactGroupRingRow : OpenClaim := { program := "ytnhdnogcglmjdaa", sum := "197cbe96a2cb888a01abee8b316f4210ae30a33b6d8282c91ef01e8fd7d93354", func := "loop.example/g01132/laws.FnExactGroupRing", spec := "fnExactGroupRing", unfollowed := true, recurses := true, apart := false }
def FnExactGroupRingSaid : Prop := fnExactGroupRingRow.holds Try.pinned (OpenSpec.ofChange fnExactGroupRingSpec)

/-- ITS FALSE NEIGHBOUR: 'it returns false'. Refute it at one input. -/
def fnExactGroupRingWrong : ChangeSpec := { name := "fnExactGroupRing", fn := fun _ => fun
  | [d] => { results := [.lit (.bool false)], args := [d] }
  | _ => none }
def FnExactGroupRingWrongFalsely : Prop := fnExactGroupRingRow.holds Try.pinned (OpenSpec.ofChange fnExactGroupRingWrong)

/-- 'laws.FnExactDihedralRing': WHATEVER THE INPUT: true; the input reads as it did. -/
def fnExactDihedralRingSpec : ChangeSpec := { name := "fnExactDihedralRing", fn := fun _ => fun
  | [d] => { results := [.lit (.bool true)], args := [d] }
  | _ => none }
def fnExactDihedralRingRow : OpenClaim := { program := "ytnhdnogcglmjdaa", sum := "197cbe96a2cb888a01abee8b316f4210ae30a33b6d8282c91ef01e8fd7d93354", func := "loop.example/g01132/laws.FnExactDihedralRing", spec := "fnExactDihedralRing", apart := false }
def FnExactDihedralRingSaid : Prop := fnExactDihedralRingRow.holds Try.pinned (OpenSpec.ofChange fnExactDihedralRingSpec)

/-- ITS FALSE NEIGHBOUR: 'it returns false'. Refute it at one input. -/
def fnExactDihedralRingWrong : ChangeSpec := { name := "fnExactDihedralRing", fn := fun _ => fun
  | [d] => { results := [.lit (.bool false)], args := [d] }
  | _ => none }
def FnExactDihedralRingWrongFalsely : Prop := fnExactDihedralRingRow.holds Try.pinned (OpenSpec.ofChange fnExactDihedralRingWrong)

/-- 'laws.FnExactNearGroup': WHATEVER THE INPUT: true; the input reads as it did. -/
def fnExactNearGroupSpec : ChangeSpec := { name := "fnExactNearGroup", fn := fun _ => fun
  | [d1, d2] => { results := [.lit (.bool true)], args := [d1, d2] }
  | _ => none }
def fnExactNearGroupRow : OpenClaim := { program := "ytnhdnogcglmjdaa", sum := "197cbe96a2cb888a01abee8b316f4210ae30a33b6d8282c91ef01e8fd7d93354", func := "loop.example/g01132/laws.FnExactNearGroup", spec := "fnExactNearGroup", unfollowed := true, recurses := true, apart := false }
def FnExactNearGroupSaid : Prop := fnExactNearGroupRow.holds Try.pinned (OpenSpec.ofChange fnExactNearGroupSpec)

/-- ITS FALSE NEIGHBOUR: 'it returns false'. Refute it at one input. -/
def fnExactNearGroupWrong : ChangeSpec := { name := "fnExactNearGroup", fn := fun _ => fun
  | [d1, d2] => { results := [.lit (.bool false)], args := [d1, d2] }
  | _ => none }
def FnExactNearGroupWrongFalsely : Prop := fnExactNearGroupRow.holds Try.pinned (OpenSpec.ofChange fnExactNearGroupWrong)

/-- 'laws.FnExactTambaraYamagami': WHATEVER THE INPUT: true; the input reads as it did. -/
def fnExactTambaraYamagamiSpec : ChangeSpec := { name := "fnExactTambaraYamagami", fn := fun _ => fun
  | [d] => { results := [.lit (.bool true)], args := [d] }
  | _ => none }
def fnExactTambaraYamagamiRow : OpenClaim := { program := "ytnhdnogcglmjdaa", sum := "197cbe96a2cb888a01abee8b316f4210ae30a33b6d8282c91ef01e8fd7d93354", func := "loop.example/g01132/laws.FnExactTambaraYamagami", spec := "fnExactTambaraYamagami", unfollowed := true, recurses := true, apart := false }
def FnExactTambaraYamagamiSaid : Prop := fnExactTambaraYamagamiRow.holds Try.pinned (OpenSpec.ofChange fnExactTambaraYamagamiSpec)

/-- ITS FALSE NEIGHBOUR: 'it returns false'. Refute it at one input. -/
def fnExactTambaraYamagamiWrong : ChangeSpec := { name := "fnExactTambaraYamagami", fn := fun _ => fun
  | [d] => { results := [.lit (.bool false)], args := [d] }
  | _ => none }
def FnExactTambaraYamagamiWrongFalsely : Prop := fnExactTambaraYamagamiRow.holds Try.pinned (OpenSpec.ofChange fnExactTambaraYamagamiWrong)

/-- 'laws.FnExactTransitiveAction': WHATEVER THE INPUT: true; the input reads as it did. -/
def fnExactTransitiveActionSpec : ChangeSpec := { name := "fnExactTransitiveAction", fn := fun _ => fun
  | [d1, d2] => { results := [.lit (.bool true)], args := [d1, d2] }
  | _ => none }
def fnExactTransitiveActionRow : OpenClaim := { program := "ytnhdnogcglmjdaa", sum := "197cbe96a2cb888a01abee8b316f4210ae30a33b6d8282c91ef01e8fd7d93354", func := "loop.example/g01132/laws.FnExactTransitiveAction", spec := "fnExactTransitiveAction", unfollowed := true, recurses := true, apart := false }
def FnExactTransitiveActionSaid : Prop := fnExactTransitiveActionRow.holds Try.pinned (OpenSpec.ofChange fnExactTransitiveActionSpec)

/-- ITS FALSE NEIGHBOUR: 'it returns false'. Refute it at one input. -/
def fnExactTransitiveActionWrong : ChangeSpec := { name := "fnExactTransitiveAction", fn := fun _ => fun
  | [d1, d2] => { results := [.lit (.bool false)], args := [d1, d2] }
  | _ => none }
def FnExactTransitiveActionWrongFalsely : Prop := fnExactTransitiveActionRow.holds Try.pinned (OpenSpec.ofChange fnExactTransitiveActionWrong)

/- THE SECOND FORM. 'bulk': how many values and letters a reading holds, each counted each time it is reached (what is shared counts as often as it is met; a slice's spare places count too). A statement '..UptoSaid' is the law's where the arguments, and the package variables that the reading takes, are together of bulk at most 1048576: NARROWER than '..Said'. Prove '..Said' where nothing that the law and all that it calls make is longer than what came in: it says more and counts as full. Else prove '..UptoSaid'. A law counts once. -/
mutual
def uptoBulk {H : Type} : DataW H → Nat
  | .lit (.string bytes) => bytes.length + 1
  | .lit _ => 1
  | .nil => 1
  | .ptr d => uptoBulk d + 1
  | .slice elems spare => uptoBulkAll elems + uptoBulkAll spare + 1
  | .agg parts => uptoBulkAll parts + 1
  | .iface _ d => uptoBulk d + 1
  | .map entries => uptoBulkEntries entries + 1
  | .held _ => 1
def uptoBulkAll {H : Type} : List (DataW H) → Nat
  | [] => 0
  | d :: r => uptoBulk d + uptoBulkAll r
def uptoBulkEntries {H : Type} : List (Lit × DataW H) → Nat
  | [] => 0
  | x :: r => uptoBulkEntry x + uptoBulkEntries r
def uptoBulkEntry {H : Type} : Lit × DataW H → Nat
  | (.string bytes, d) => bytes.length + uptoBulk d + 1
  | (_, d) => uptoBulk d + 1
 end
def uptoSmall : (H : Type) → List (DataW H) → Bool := fun _ ds => decide (uptoBulkAll ds ≤ 1048576)
def OpenSpec.upto (s : _root_.Go.ChangeSpec) : _root_.Go.OpenSpec := { _root_.Go.OpenSpec.ofChange s with cond := some uptoSmall }

/-- 'laws.FnExactIsTrivalent', WHERE WHAT IT READS IS OF BULK AT MOST 1048576: true; the input reads as it did. -/
def fnExactIsTrivalentUptoRow : OpenClaim := { program := "ytnhdnogcglmjdaa", sum := "197cbe96a2cb888a01abee8b316f4210ae30a33b6d8282c91ef01e8fd7d93354", func := "loop.example/g01132/laws.FnExactIsTrivalent", spec := "fnExactIsTrivalent", apart := false, narrowed := true }
def FnExactIsTrivalentUptoSaid : Prop := fnExactIsTrivalentUptoRow.holds Try.pinned (OpenSpec.upto fnExactIsTrivalentSpec)

/-- 'laws.FnExactIsConnectedGraph', WHERE WHAT IT READS IS OF BULK AT MOST 1048576: true; the input reads as it did. -/
def fnExactIsConnectedGraphUptoRow : OpenClaim := { program := "ytnhdnogcglmjdaa", sum := "197cbe96a2cb888a01abee8b316f4210ae30a33b6d8282c91ef01e8fd7d93354", func := "loop.example/g01132/laws.FnExactIsConnectedGraph", spec := "fnExactIsConnectedGraph", unfollowed := true, recurses := true, apart := false, narrowed := true }
def FnExactIsConnectedGraphUptoSaid : Prop := fnExactIsConnectedGraphUptoRow.holds Try.pinned (OpenSpec.upto fnExactIsConnectedGraphSpec)

/-- 'laws.FnExactEvenSpinRing', WHERE WHAT IT READS IS OF BULK AT MOST 1048576: true; the input reads as it did. -/
def fnExactEvenSpinRingUptoRow : OpenClaim := { program := "ytnhdnogcglmjdaa", sum := "197cbe96a2cb888a01abee8b316f4210ae30a33b6d8282c91ef01e8fd7d93354", func := "loop.example/g01132/laws.FnExactEvenSpinRing", spec := "fnExactEvenSpinRing", apart := false, narrowed := true }
def FnExactEvenSpinRingUptoSaid : Prop := fnExactEvenSpinRingUptoRow.holds Try.pinned (OpenSpec.upto fnExactEvenSpinRingSpec)

/-- 'laws.FnExactSpinRing', WHERE WHAT IT READS IS OF BULK AT MOST 1048576: true; the input reads as it did. -/
def fnExactSpinRingUptoRow : OpenClaim := { program := "ytnhdnogcglmjdaa", sum := "197cbe96a2cb888a01abee8b316f4210ae30a33b6d8282c91ef01e8fd7d93354", func := "loop.example/g01132/laws.FnExactSpinRing", spec := "fnExactSpinRing", apart := false, narrowed := true }
def FnExactSpinRingUptoSaid : Prop := fnExactSpinRingUptoRow.holds Try.pinned (OpenSpec.upto fnExactSpinRingSpec)

/-- 'laws.FnExactDihedralGroupRing', WHERE WHAT IT READS IS OF BULK AT MOST 1048576: true; the input reads as it did. -/
def fnExactDihedralGroupRingUptoRow : OpenClaim := { program := "ytnhdnogcglmjdaa", sum := "197cbe96a2cb888a01abee8b316f4210ae30a33b6d8282c91ef01e8fd7d93354", func := "loop.example/g01132/laws.FnExactDihedralGroupRing", spec := "fnExactDihedralGroupRing", unfollowed := true, recurses := true, apart := false, narrowed := true }
def FnExactDihedralGroupRingUptoSaid : Prop := fnExactDihedralGroupRingUptoRow.holds Try.pinned (OpenSpec.upto fnExactDihedralGroupRingSpec)

/-- 'laws.FnExactGroupRing', WHERE WHAT IT READS IS OF BULK AT MOST 1048576: true; the input reads as it did. -/
def fnExactGroupRingUptoRow : OpenClaim := { program := "ytnhdnogcglmjdaa", sum := "197cbe96a2cb888a01abee8b316f4210ae30a33b6d8282c91ef01e8fd7d93354", func := "loop.example/g01132/laws.FnExactGroupRing", spec := "fnExactGroupRing", unfollowed := true, recurses := true, apart := false, narrowed := true }
def FnExactGroupRingUptoSaid : Prop := fnExactGroupRingUptoRow.holds Try.pinned (OpenSpec.upto fnExactGroupRingSpec)

/-- 'laws.FnExactDihedralRing', WHERE WHAT IT READS IS OF BULK AT MOST 1048576: true; the input reads as it did. -/
def fnExactDihedralRingUptoRow : OpenClaim := { program := "ytnhdnogcglmjdaa", sum := "197cbe96a2cb888a01abee8b316f4210ae30a33b6d8282c91ef01e8fd7d93354", func := "loop.example/g01132/laws.FnExactDihedralRing", spec := "fnExactDihedralRing", apart := false, narrowed := true }
def FnExactDihedralRingUptoSaid : Prop := fnExactDihedralRingUptoRow.holds Try.pinned (OpenSpec.upto fnExactDihedralRingSpec)

/-- 'laws.FnExactNearGroup', WHERE WHAT IT READS IS OF BULK AT MOST 1048576: true; the input reads as it did. -/
def fnExactNearGroupUptoRow : OpenClaim := { program := "ytnhdnogcglmjdaa", sum := "197cbe96a2cb888a01abee8b316f4210ae30a33b6d8282c91ef01e8fd7d93354", func := "loop.example/g01132/laws.FnExactNearGroup", spec := "fnExactNearGroup", unfollowed := true, recurses := true, apart := false, narrowed := true }
def FnExactNearGroupUptoSaid : Prop := fnExactNearGroupUptoRow.holds Try.pinned (OpenSpec.upto fnExactNearGroupSpec)

/-- 'laws.FnExactTambaraYamagami', WHERE WHAT IT READS IS OF BULK AT MOST 1048576: true; the input reads as it did. -/
def fnExactTambaraYamagamiUptoRow : OpenClaim := { program := "ytnhdnogcglmjdaa", sum := "197cbe96a2cb888a01abee8b316f4210ae30a33b6d8282c91ef01e8fd7d93354", func := "loop.example/g01132/laws.FnExactTambaraYamagami", spec := "fnExactTambaraYamagami", unfollowed := true, recurses := true, apart := false, narrowed := true }
def FnExactTambaraYamagamiUptoSaid : Prop := fnExactTambaraYamagamiUptoRow.holds Try.pinned (OpenSpec.upto fnExactTambaraYamagamiSpec)

/-- 'laws.FnExactTransitiveAction', WHERE WHAT IT READS IS OF BULK AT MOST 1048576: true; the input reads as it did. -/
def fnExactTransitiveActionUptoRow : OpenClaim := { program := "ytnhdnogcglmjdaa", sum := "197cbe96a2cb888a01abee8b316f4210ae30a33b6d8282c91ef01e8fd7d93354", func := "loop.example/g01132/laws.FnExactTransitiveAction", spec := "fnExactTransitiveAction", unfollowed := true, recurses := true, apart := false, narrowed := true }
def FnExactTransitiveActionUptoSaid : Prop := fnExactTransitiveActionUptoRow.holds Try.pinned (OpenSpec.upto fnExactTransitiveActionSpec)

end Rows
end Go.Proofs.Ytnhdnogcglmjdaa
