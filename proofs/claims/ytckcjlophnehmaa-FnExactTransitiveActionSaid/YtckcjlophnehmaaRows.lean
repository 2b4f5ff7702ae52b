/-
  No cell of these rows narrows 'for every input' (looked for: loops, veiled, ifaces, maps, wideKeys, modest, calm, conditions, laid).
  DERIVED. THE GIVEN ROWS OF THIS SEAT. 3 by the template 'for every input the law returns true; each argument reads behind the call as it read before'; 0 by the template 'total and deterministic' (their statements: YtckcjlophnehmaaTotals.lean).
  GIVEN WITH THE SEED: the statements are not yours to turn. If you find one false, say at which input.
  Laid BY PROGRAM, IN A SANDBOX (cutbox-rows.mjs): the forced cells as the released guide's own fill.sh prints them over the translation a7e6dee66906e243… (all of the seat's roots in one cut). By AI agents, Wed Nov 11 2026. No macro, syntax, notation, axiom, sorry.
-/
import Derived.Test.YtckcjlophnehmaaChecked
import GoSem.Claim
import GoSem.ClaimJoined
import GoSem.ClaimMapViews
import Derived.JoinedTies
import Derived.KernelRfl
namespace Go.Proofs.Ytckcjlophnehmaa
/- THE CELL 'sum', in the pinned program and in every row, IS THE sha256 OF THE DUMP (.gsa) THAT YtckcjlophnehmaaProg.lean LOADS. Nothing in Lean hashes anything: it is a label: what it is worth is what the hold of that sum in a sandbox is worth. -/
noncomputable def Try.pinned : Pinned := { name := "ytckcjlophnehmaa", sum := "a7e6dee66906e24309272ac0d252bde4f98b99351ea2e47f103bf01557ce00dc", checked := Try.checked }
namespace Rows
def none {H : Type} : Left H := { results := [], args := [] }

/-- 'laws.FnExactIsTrivalent': WHATEVER THE INPUT: true; the input reads as it did. -/
def fnExactIsTrivalentSpec : ChangeSpec := { name := "fnExactIsTrivalent", fn := fun _ => fun
  | [d] => { results := [.lit (.bool true)], args := [d] }
  | _ => none }
def fnExactIsTrivalentRow : OpenClaim := { program := "ytckcjlophnehmaa", sum := "a7e6dee66906e24309272ac0d252bde4f98b99351ea2e47f103bf01557ce00dc", func := "loop.example/g01132/laws.FnExactIsTrivalent", spec := "fnExactIsTrivalent", apart := false }
def FnExactIsTrivalentSaid : Prop := fnExactIsTrivalentRow.holds Try.pinned (OpenSpec.ofChange fnExactIsTrivalentSpec)

/-- ITS FALSE NEIGHBOUR: 'it returns false'. Refute it at one input. -/
def fnExactIsTrivalentWrong : ChangeSpec := { name := "fnExactIsTrivalent", fn := fun _ => fun
  | [d] => { results := [.lit (.bool false)], args := [d] }
  | _ => none }
def FnExactIsTrivalentWrongFalsely : Prop := fnExactIsTrivalentRow.holds Try.pinned (OpenSpec.ofChange fnExactIsTrivalentWrong)

/-- 'laws.FnExactIsConnectedGraph': WHATEVER THE INPUT: true; the input reads as it did. -/
def fnExactIsConnectedGraphSpec : ChangeSpec := { name := "fnExactIsConnectedGraph", fn := fun _ => fun
  | [d] => { results := [.lit (.bool true)], args := [d] }
  | _ => none }
def fnExactIsConnectedGraphRow : OpenClaim := { program := "ytckcjlophnehmaa", sum := "a7e6dee66906e24309272ac0d252bde4f98b99351ea2e47f103bf01557ce00dc", func := "loop.example/g01132/laws.FnExactIsConnectedGraph", spec := "fnExactIsConnectedGraph", unfollowed := true, recurses := true, apart := false }
def FnExactIsConnectedGraphSaid : Prop := fnExactIsConnectedGraphRow.holds Try.pinned (OpenSpec.ofChange fnExactIsConnectedGraphSpec)

/-- ITS FALSE NEIGHBOUR: 'it returns false'. Refute it at one input. -/
def fnExactIsConnectedGraphWrong : ChangeSpec := { name := "fnExactIsConnectedGraph", fn := fun _ => fun
  | [d] => { results := [.lit (.bool false)], args := [d] }
  | _ => none }
def FnExactIsConnectedGraphWrongFalsely : Prop := fnExactIsConnectedGraphRow.holds Try.pinned (OpenSpec.ofChange fnExactIsConnectedGraphWrong)

/-- 'laws.FnExactTransitiveAction': WHATEVER THE INPUT: true; the input reads as it did. -/
def fnExactTransitiveActionSpec : ChangeSpec := { name := "fnExactTransitiveAction", fn := fun _ => fun
  | [d1, d2] => { results := [.lit (.bool true)], args := [d1, d2] }
  | _ => none }
def fnExactTransitiveActionRow : OpenClaim := { program := "ytckcjlophnehmaa", sum := "a7e6dee66906e24309272ac0d252bde4f98b99351ea2e47f103bf01557ce00dc", func := "loop.example/g01132/laws.FnExactTransitiveAction", spec := "fnExactTransitiveAction", unfollowed := true, recurses := true, apart := false }
def FnExactTransitiveActionSaid : Prop := fnExactTransitiveActionRow.holds Try.pinned (OpenSpec.ofChange fnExactTransitiveActionSpec)

/-- ITS FALSE NEIGHBOUR: 'it returns false'. Refute it at one input. -/
def fnExactTransitiveActionWrong : ChangeSpec := { name := "fnExactTransitiveAction", fn := fun _ => fun
  | [d1, d2] => { results := [.lit (.bool false)], args := [d1, d2] }
  | _ => none }
def FnExactTransitiveActionWrongFalsely : Prop := fnExactTransitiveActionRow.holds Try.pinned (OpenSpec.ofChange fnExactTransitiveActionWrong)

/- THE SECOND FORM. 'bulk': how many values and letters a reading holds, each counted each time it is reached (what is shared counts as often as it is met; a slice's spare places count too). A statement '..UptoSaid' is the law's where the arguments, and the package variables that the reading takes, are together of bulk at most 1048576: NARROWER than '..Said'. Prove '..Said' where nothing that the law and all that it calls make is longer than what came in: it says more and counts as full. Else prove '..UptoSaid'. A law counts once. -/
mutual
def uptoBulk {H : Type} : DataW H → Nat
  | .lit (.string bytes) => bytes.length + 1
  | .lit _ => 1
  | .nil => 1
  | .ptr d => uptoBulk d + 1
  | .slice elems spare => uptoBulkAll elems + uptoBulkAll spare + 1
  | .agg parts => uptoBulkAll parts + 1
  | .iface _ d => uptoBulk d + 1
  | .map entries => uptoBulkEntries entries + 1
  | .held _ => 1
def uptoBulkAll {H : Type} : List (DataW H) → Nat
  | [] => 0
  | d :: r => uptoBulk d + uptoBulkAll r
def uptoBulkEntries {H : Type} : List (Lit × DataW H) → Nat
  | [] => 0
  | x :: r => uptoBulkEntry x + uptoBulkEntries r
def uptoBulkEntry {H : Type} : Lit × DataW H → Nat
  | (.string bytes, d) => bytes.length + uptoBulk d + 1
  | (_, d) => uptoBulk d + 1
 end
def uptoSmall : (H : Type) → List (DataW H) → Bool := fun _ ds => decide (uptoBulkAll ds ≤ 1048576)
def OpenSpec.upto (s : _root_.Go.ChangeSpec) : _root_.Go.OpenSpec := { _root_.Go.OpenSpec.ofChange s with cond := some uptoSmall }

/-- 'laws.FnExactIsTrivalent', WHERE WHAT IT READS IS OF BULK AT MOST 1048576: true; the input reads as it did. -/
def fnExactIsTrivalentUptoRow : OpenClaim := { program := "ytckcjlophnehmaa", sum := "a7e6dee66906e24309272ac0d252bde4f98b99351ea2e47f103bf01557ce00dc", func := "loop.example/g01132/laws.FnExactIsTrivalent", spec := "fnExactIsTrivalent", apart := false, narrowed := true }
def FnExactIsTrivalentUptoSaid : Prop := fnExactIsTrivalentUptoRow.holds Try.pinned (OpenSpec.upto fnExactIsTrivalentSpec)

/-- 'laws.FnExactIsConnectedGraph', WHERE WHAT IT READS IS OF BULK AT MOST 1048576: true; the input reads as it did. -/
def fnExactIsConnectedGraphUptoRow : OpenClaim := { program := "ytckcjlophnehmaa", sum := "a7e6dee66906e24309272ac0d252bde4f98b99351ea2e47f103bf01557ce00dc", func := "loop.example/g01132/laws.FnExactIsConnectedGraph", spec := "fnExactIsConnectedGraph", unfollowed := true, recurses := true, apart := false, narrowed := true }
def FnExactIsConnectedGraphUptoSaid : Prop := fnExactIsConnectedGraphUptoRow.holds Try.pinned (OpenSpec.upto fnExactIsConnectedGraphSpec)

/-- 'laws.FnExactTransitiveAction', WHERE WHAT IT READS IS OF BULK AT MOST 1048576: true; the input reads as it did. -/
def fnExactTransitiveActionUptoRow : OpenClaim := { program := "ytckcjlophnehmaa", sum := "a7e6dee66906e24309272ac0d252bde4f98b99351ea2e47f103bf01557ce00dc", func := "loop.example/g01132/laws.FnExactTransitiveAction", spec := "fnExactTransitiveAction", unfollowed := true, recurses := true, apart := false, narrowed := true }
def FnExactTransitiveActionUptoSaid : Prop := fnExactTransitiveActionUptoRow.holds Try.pinned (OpenSpec.upto fnExactTransitiveActionSpec)

end Rows
end Go.Proofs.Ytckcjlophnehmaa
