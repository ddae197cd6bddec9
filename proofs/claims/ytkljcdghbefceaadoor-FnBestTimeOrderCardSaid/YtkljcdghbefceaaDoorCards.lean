/-
  DERIVED. GIVEN WITH THE SEED: THE CARDS: each row of YtkljcdghbefceaaDoorRows.lean that lists a variable, with what it lists TIED to the program's text (the seventh form; the later family's looks); each row that meets fmt, with fmt's text TOLD by the authors' own Lean function (tested against real Go, not proved from fmt's source: count such statements apart). THE CARD IS WHAT COUNTS. Prove the row's statement (the work); the ties are given (YtkljcdghbefceaaDoorTie.lean); close each card by the builder's one call (the guide's Derived/Test/ToyasCard.lean, 'card_holds'). Laid BY PROGRAM, IN A SANDBOX (cutbox-door.mjs). By AI agents, Wed Nov 11 2026. No macro, syntax, notation, axiom, sorry.
-/
import Derived.Test.YtkljcdghbefceaaDoorRows
import GoSem.ClaimSeven
namespace Go.Proofs.YtkljcdghbefceaaDoor
namespace Rows

/-- THE TIED CARD OF 'laws.FnOrderStartsPlan'. -/
def fnOrderStartsPlanCard : Claim7 := { stood := { row := fnOrderStartsPlanRow, standIns := [], harness := (true, "ec80cede5b466d76f5e3b10535171d51b6bfd7863c0532227731e42f29849f81"), looks := true }, kinds := [], alts := [], laidByText := true, laidKinds := [.data], laidTests := true, laidLooks := .later }
def FnOrderStartsPlanCardSaid : Prop := Claim7.holds Tryd.pinned (.plain (OpenSpec.ofChange fnOrderStartsPlanSpec)) fnOrderStartsPlanCard

/-- THE TIED CARD OF 'laws.FnOrderStartsTop'. -/
def fnOrderStartsTopCard : Claim7 := { stood := { row := fnOrderStartsTopRow, standIns := [], harness := (true, "ec80cede5b466d76f5e3b10535171d51b6bfd7863c0532227731e42f29849f81"), looks := true }, kinds := [], alts := [], laidByText := true, laidKinds := [.data], laidTests := true, laidLooks := .later }
def FnOrderStartsTopCardSaid : Prop := Claim7.holds Tryd.pinned (.plain (OpenSpec.ofChange fnOrderStartsTopSpec)) fnOrderStartsTopCard

/-- THE TIED CARD OF 'laws.FnOrderStarts'. -/
def fnOrderStartsCard : Claim7 := { stood := { row := fnOrderStartsRow, standIns := [], harness := (true, "ec80cede5b466d76f5e3b10535171d51b6bfd7863c0532227731e42f29849f81"), looks := true }, kinds := [], alts := [], laidByText := true, laidKinds := [.data], laidTests := true, laidLooks := .later }
def FnOrderStartsCardSaid : Prop := Claim7.holds Tryd.pinned (.plain (OpenSpec.ofChange fnOrderStartsSpec)) fnOrderStartsCard

/-- THE TIED CARD OF 'laws.FnBestTimeOrder'. -/
def fnBestTimeOrderCard : Claim7 := { stood := { row := fnBestTimeOrderRow, standIns := [], harness := (true, "ec80cede5b466d76f5e3b10535171d51b6bfd7863c0532227731e42f29849f81"), looks := true }, kinds := [], alts := [], laidByText := true, laidKinds := [.data], laidTests := true, laidLooks := .later }
def FnBestTimeOrderCardSaid : Prop := Claim7.holds Tryd.pinned (.plain (OpenSpec.ofChange fnBestTimeOrderSpec)) fnBestTimeOrderCard

/-- THE TIED CARD OF 'laws.FnBestOrder'. -/
def fnBestOrderCard : Claim7 := { stood := { row := fnBestOrderRow, standIns := [], harness := (true, "ec80cede5b466d76f5e3b10535171d51b6bfd7863c0532227731e42f29849f81"), looks := true }, kinds := [], alts := [], laidByText := true, laidKinds := [.data], laidTests := true, laidLooks := .later }
def FnBestOrderCardSaid : Prop := Claim7.holds Tryd.pinned (.plain (OpenSpec.ofChange fnBestOrderSpec)) fnBestOrderCard

/-- THE SECOND FORM's CARD OF 'laws.FnOrderStartsPlan'. -/
def fnOrderStartsPlanUptoCard : Claim7 := { stood := { row := fnOrderStartsPlanUptoRow, standIns := [], harness := (true, "ec80cede5b466d76f5e3b10535171d51b6bfd7863c0532227731e42f29849f81"), looks := true }, kinds := [], alts := [], laidByText := true, laidKinds := [.data], laidTests := true, laidLooks := .later }
def FnOrderStartsPlanUptoCardSaid : Prop := Claim7.holds Tryd.pinned (.plain (OpenSpec.upto fnOrderStartsPlanSpec)) fnOrderStartsPlanUptoCard

/-- THE SECOND FORM's CARD OF 'laws.FnOrderStartsTop'. -/
def fnOrderStartsTopUptoCard : Claim7 := { stood := { row := fnOrderStartsTopUptoRow, standIns := [], harness := (true, "ec80cede5b466d76f5e3b10535171d51b6bfd7863c0532227731e42f29849f81"), looks := true }, kinds := [], alts := [], laidByText := true, laidKinds := [.data], laidTests := true, laidLooks := .later }
def FnOrderStartsTopUptoCardSaid : Prop := Claim7.holds Tryd.pinned (.plain (OpenSpec.upto fnOrderStartsTopSpec)) fnOrderStartsTopUptoCard

/-- THE SECOND FORM's CARD OF 'laws.FnOrderStarts'. -/
def fnOrderStartsUptoCard : Claim7 := { stood := { row := fnOrderStartsUptoRow, standIns := [], harness := (true, "ec80cede5b466d76f5e3b10535171d51b6bfd7863c0532227731e42f29849f81"), looks := true }, kinds := [], alts := [], laidByText := true, laidKinds := [.data], laidTests := true, laidLooks := .later }
def FnOrderStartsUptoCardSaid : Prop := Claim7.holds Tryd.pinned (.plain (OpenSpec.upto fnOrderStartsSpec)) fnOrderStartsUptoCard

/-- THE SECOND FORM's CARD OF 'laws.FnBestTimeOrder'. -/
def fnBestTimeOrderUptoCard : Claim7 := { stood := { row := fnBestTimeOrderUptoRow, standIns := [], harness := (true, "ec80cede5b466d76f5e3b10535171d51b6bfd7863c0532227731e42f29849f81"), looks := true }, kinds := [], alts := [], laidByText := true, laidKinds := [.data], laidTests := true, laidLooks := .later }
def FnBestTimeOrderUptoCardSaid : Prop := Claim7.holds Tryd.pinned (.plain (OpenSpec.upto fnBestTimeOrderSpec)) fnBestTimeOrderUptoCard

/-- THE SECOND FORM's CARD OF 'laws.FnBestOrder'. -/
def fnBestOrderUptoCard : Claim7 := { stood := { row := fnBestOrderUptoRow, standIns := [], harness := (true, "ec80cede5b466d76f5e3b10535171d51b6bfd7863c0532227731e42f29849f81"), looks := true }, kinds := [], alts := [], laidByText := true, laidKinds := [.data], laidTests := true, laidLooks := .later }
def FnBestOrderUptoCardSaid : Prop := Claim7.holds Tryd.pinned (.plain (OpenSpec.upto fnBestOrderSpec)) fnBestOrderUptoCard
end Rows
end Go.Proofs.YtkljcdghbefceaaDoor
