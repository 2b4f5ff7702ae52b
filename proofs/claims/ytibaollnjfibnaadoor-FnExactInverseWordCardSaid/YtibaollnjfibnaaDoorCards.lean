/-
  DERIVED. GIVEN WITH THE SEED: THE CARDS: each row of YtibaollnjfibnaaDoorRows.lean that lists a variable, with what it lists TIED to the program's text (the seventh form; the later family's looks); each row that meets fmt, with fmt's text TOLD by the authors' own Lean function (tested against real Go, not proved from fmt's source: count such statements apart). THE CARD IS WHAT COUNTS. Prove the row's statement (the work); the ties are given (YtibaollnjfibnaaDoorTie.lean); close each card by the builder's one call (the guide's Derived/Test/ToyasCard.lean, 'card_holds'). Laid BY PROGRAM, IN A SANDBOX (cutbox-door.mjs). By AI agents, Wed Nov 11 2026. No macro, syntax, notation, axiom, sorry.
-/
import Derived.Test.YtibaollnjfibnaaDoorRows
import GoSem.ClaimSeven
namespace Go.Proofs.YtibaollnjfibnaaDoor
namespace Rows

/-- THE TIED CARD OF 'laws.FnExactIsWord'. -/
def fnExactIsWordCard : Claim7 := { stood := { row := fnExactIsWordRow, standIns := [], harness := (true, "71bff690c9bfba67b5cd6019e12af5449cf87b4a50747730eb7f904a9bb791d4"), looks := false }, kinds := [], alts := [], laidByText := true, laidKinds := [.data, .pinned], laidTests := true, laidLooks := .later }
def FnExactIsWordCardSaid : Prop := Claim7.holds Tryd.pinned (.plain (OpenSpec.ofChange fnExactIsWordSpec)) fnExactIsWordCard

/-- THE TIED CARD OF 'laws.FnExactReduceWord'. -/
def fnExactReduceWordCard : Claim7 := { stood := { row := fnExactReduceWordRow, standIns := [], harness := (true, "71bff690c9bfba67b5cd6019e12af5449cf87b4a50747730eb7f904a9bb791d4"), looks := false }, kinds := [], alts := [], laidByText := true, laidKinds := [.data, .pinned], laidTests := true, laidLooks := .later }
def FnExactReduceWordCardSaid : Prop := Claim7.holds Tryd.pinned (.plain (OpenSpec.ofChange fnExactReduceWordSpec)) fnExactReduceWordCard

/-- THE TIED CARD OF 'laws.FnExactInverseWord'. -/
def fnExactInverseWordCard : Claim7 := { stood := { row := fnExactInverseWordRow, standIns := [], harness := (true, "71bff690c9bfba67b5cd6019e12af5449cf87b4a50747730eb7f904a9bb791d4"), looks := false }, kinds := [], alts := [], laidByText := true, laidKinds := [.data, .pinned], laidTests := true, laidLooks := .later }
def FnExactInverseWordCardSaid : Prop := Claim7.holds Tryd.pinned (.plain (OpenSpec.ofChange fnExactInverseWordSpec)) fnExactInverseWordCard

/-- THE SECOND FORM's CARD OF 'laws.FnExactIsWord'. -/
def fnExactIsWordUptoCard : Claim7 := { stood := { row := fnExactIsWordUptoRow, standIns := [], harness := (true, "71bff690c9bfba67b5cd6019e12af5449cf87b4a50747730eb7f904a9bb791d4"), looks := false }, kinds := [], alts := [], laidByText := true, laidKinds := [.data, .pinned], laidTests := true, laidLooks := .later }
def FnExactIsWordUptoCardSaid : Prop := Claim7.holds Tryd.pinned (.plain (OpenSpec.upto fnExactIsWordSpec)) fnExactIsWordUptoCard

/-- THE SECOND FORM's CARD OF 'laws.FnExactReduceWord'. -/
def fnExactReduceWordUptoCard : Claim7 := { stood := { row := fnExactReduceWordUptoRow, standIns := [], harness := (true, "71bff690c9bfba67b5cd6019e12af5449cf87b4a50747730eb7f904a9bb791d4"), looks := false }, kinds := [], alts := [], laidByText := true, laidKinds := [.data, .pinned], laidTests := true, laidLooks := .later }
def FnExactReduceWordUptoCardSaid : Prop := Claim7.holds Tryd.pinned (.plain (OpenSpec.upto fnExactReduceWordSpec)) fnExactReduceWordUptoCard

/-- THE SECOND FORM's CARD OF 'laws.FnExactInverseWord'. -/
def fnExactInverseWordUptoCard : Claim7 := { stood := { row := fnExactInverseWordUptoRow, standIns := [], harness := (true, "71bff690c9bfba67b5cd6019e12af5449cf87b4a50747730eb7f904a9bb791d4"), looks := false }, kinds := [], alts := [], laidByText := true, laidKinds := [.data, .pinned], laidTests := true, laidLooks := .later }
def FnExactInverseWordUptoCardSaid : Prop := Claim7.holds Tryd.pinned (.plain (OpenSpec.upto fnExactInverseWordSpec)) fnExactInverseWordUptoCard
end Rows
end Go.Proofs.YtibaollnjfibnaaDoor
