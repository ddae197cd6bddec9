/-
  DERIVED. GIVEN WITH THE SEED: THE CARDS: each row of YtlcdffhhimbbmaaDoorRows.lean that lists a variable, with what it lists TIED to the program's text (the seventh form; the later family's looks); each row that meets fmt, with fmt's text TOLD by the authors' own Lean function (tested against real Go, not proved from fmt's source: count such statements apart). THE CARD IS WHAT COUNTS. Prove the row's statement (the work); the ties are given (YtlcdffhhimbbmaaDoorTie.lean); close each card by the builder's one call (the guide's Derived/Test/ToyasCard.lean, 'card_holds'). Laid BY PROGRAM, IN A SANDBOX (cutbox-door.mjs). By AI agents, Wed Nov 11 2026. No macro, syntax, notation, axiom, sorry.
-/
import Derived.Test.YtlcdffhhimbbmaaDoorRows
import GoSem.ClaimSeven
namespace Go.Proofs.YtlcdffhhimbbmaaDoor
namespace Rows

/-- THE TIED CARD OF 'laws.FnValidLog'. -/
def fnValidLogCard : Claim7 := { stood := { row := fnValidLogRow, standIns := [], harness := (true, "8b134a8ec835bf6a4a2b44581a0a895862bb2b61c1ac9ccc5fcdd1a920d2b0cb"), looks := true }, kinds := [], alts := [], laidByText := true, laidKinds := [.data], laidTests := true, laidLooks := .later }
def FnValidLogCardSaid : Prop := Claim7.holds Tryd.pinned (.plain (OpenSpec.ofChange fnValidLogSpec)) fnValidLogCard

/-- THE TIED CARD OF 'laws.FnValidLogTwice'. -/
def fnValidLogTwiceCard : Claim7 := { stood := { row := fnValidLogTwiceRow, standIns := [], harness := (true, "8b134a8ec835bf6a4a2b44581a0a895862bb2b61c1ac9ccc5fcdd1a920d2b0cb"), looks := true }, kinds := [], alts := [], laidByText := true, laidKinds := [.data], laidTests := true, laidLooks := .later }
def FnValidLogTwiceCardSaid : Prop := Claim7.holds Tryd.pinned (.plain (OpenSpec.ofChange fnValidLogTwiceSpec)) fnValidLogTwiceCard

/-- THE TIED CARD OF 'laws.FnReadyOrder'. -/
def fnReadyOrderCard : Claim7 := { stood := { row := fnReadyOrderRow, standIns := [], harness := (true, "8b134a8ec835bf6a4a2b44581a0a895862bb2b61c1ac9ccc5fcdd1a920d2b0cb"), looks := true }, kinds := [], alts := [], laidByText := true, laidKinds := [.data], laidTests := true, laidLooks := .later }
def FnReadyOrderCardSaid : Prop := Claim7.holds Tryd.pinned (.plain (OpenSpec.ofChange fnReadyOrderSpec)) fnReadyOrderCard

/-- THE TIED CARD OF 'laws.FnBusyTimeLess'. -/
def fnBusyTimeLessCard : Claim7 := { stood := { row := fnBusyTimeLessRow, standIns := [], harness := (true, "8b134a8ec835bf6a4a2b44581a0a895862bb2b61c1ac9ccc5fcdd1a920d2b0cb"), looks := true }, kinds := [], alts := [], laidByText := true, laidKinds := [.data], laidTests := true, laidLooks := .later }
def FnBusyTimeLessCardSaid : Prop := Claim7.holds Tryd.pinned (.plain (OpenSpec.ofChange fnBusyTimeLessSpec)) fnBusyTimeLessCard

/-- THE TIED CARD OF 'laws.FnMostTogether'. -/
def fnMostTogetherCard : Claim7 := { stood := { row := fnMostTogetherRow, standIns := [], harness := (true, "8b134a8ec835bf6a4a2b44581a0a895862bb2b61c1ac9ccc5fcdd1a920d2b0cb"), looks := true }, kinds := [], alts := [], laidByText := true, laidKinds := [.data], laidTests := true, laidLooks := .later }
def FnMostTogetherCardSaid : Prop := Claim7.holds Tryd.pinned (.plain (OpenSpec.ofChange fnMostTogetherSpec)) fnMostTogetherCard

/-- THE TIED CARD OF 'laws.FnBusyTime'. -/
def fnBusyTimeCard : Claim7 := { stood := { row := fnBusyTimeRow, standIns := [], harness := (true, "8b134a8ec835bf6a4a2b44581a0a895862bb2b61c1ac9ccc5fcdd1a920d2b0cb"), looks := true }, kinds := [], alts := [], laidByText := true, laidKinds := [.data], laidTests := true, laidLooks := .later }
def FnBusyTimeCardSaid : Prop := Claim7.holds Tryd.pinned (.plain (OpenSpec.ofChange fnBusyTimeSpec)) fnBusyTimeCard

/-- THE SECOND FORM's CARD OF 'laws.FnValidLog'. -/
def fnValidLogUptoCard : Claim7 := { stood := { row := fnValidLogUptoRow, standIns := [], harness := (true, "8b134a8ec835bf6a4a2b44581a0a895862bb2b61c1ac9ccc5fcdd1a920d2b0cb"), looks := true }, kinds := [], alts := [], laidByText := true, laidKinds := [.data], laidTests := true, laidLooks := .later }
def FnValidLogUptoCardSaid : Prop := Claim7.holds Tryd.pinned (.plain (OpenSpec.upto fnValidLogSpec)) fnValidLogUptoCard

/-- THE SECOND FORM's CARD OF 'laws.FnValidLogTwice'. -/
def fnValidLogTwiceUptoCard : Claim7 := { stood := { row := fnValidLogTwiceUptoRow, standIns := [], harness := (true, "8b134a8ec835bf6a4a2b44581a0a895862bb2b61c1ac9ccc5fcdd1a920d2b0cb"), looks := true }, kinds := [], alts := [], laidByText := true, laidKinds := [.data], laidTests := true, laidLooks := .later }
def FnValidLogTwiceUptoCardSaid : Prop := Claim7.holds Tryd.pinned (.plain (OpenSpec.upto fnValidLogTwiceSpec)) fnValidLogTwiceUptoCard

/-- THE SECOND FORM's CARD OF 'laws.FnReadyOrder'. -/
def fnReadyOrderUptoCard : Claim7 := { stood := { row := fnReadyOrderUptoRow, standIns := [], harness := (true, "8b134a8ec835bf6a4a2b44581a0a895862bb2b61c1ac9ccc5fcdd1a920d2b0cb"), looks := true }, kinds := [], alts := [], laidByText := true, laidKinds := [.data], laidTests := true, laidLooks := .later }
def FnReadyOrderUptoCardSaid : Prop := Claim7.holds Tryd.pinned (.plain (OpenSpec.upto fnReadyOrderSpec)) fnReadyOrderUptoCard

/-- THE SECOND FORM's CARD OF 'laws.FnBusyTimeLess'. -/
def fnBusyTimeLessUptoCard : Claim7 := { stood := { row := fnBusyTimeLessUptoRow, standIns := [], harness := (true, "8b134a8ec835bf6a4a2b44581a0a895862bb2b61c1ac9ccc5fcdd1a920d2b0cb"), looks := true }, kinds := [], alts := [], laidByText := true, laidKinds := [.data], laidTests := true, laidLooks := .later }
def FnBusyTimeLessUptoCardSaid : Prop := Claim7.holds Tryd.pinned (.plain (OpenSpec.upto fnBusyTimeLessSpec)) fnBusyTimeLessUptoCard

/-- THE SECOND FORM's CARD OF 'laws.FnMostTogether'. -/
def fnMostTogetherUptoCard : Claim7 := { stood := { row := fnMostTogetherUptoRow, standIns := [], harness := (true, "8b134a8ec835bf6a4a2b44581a0a895862bb2b61c1ac9ccc5fcdd1a920d2b0cb"), looks := true }, kinds := [], alts := [], laidByText := true, laidKinds := [.data], laidTests := true, laidLooks := .later }
def FnMostTogetherUptoCardSaid : Prop := Claim7.holds Tryd.pinned (.plain (OpenSpec.upto fnMostTogetherSpec)) fnMostTogetherUptoCard

/-- THE SECOND FORM's CARD OF 'laws.FnBusyTime'. -/
def fnBusyTimeUptoCard : Claim7 := { stood := { row := fnBusyTimeUptoRow, standIns := [], harness := (true, "8b134a8ec835bf6a4a2b44581a0a895862bb2b61c1ac9ccc5fcdd1a920d2b0cb"), looks := true }, kinds := [], alts := [], laidByText := true, laidKinds := [.data], laidTests := true, laidLooks := .later }
def FnBusyTimeUptoCardSaid : Prop := Claim7.holds Tryd.pinned (.plain (OpenSpec.upto fnBusyTimeSpec)) fnBusyTimeUptoCard
end Rows
end Go.Proofs.YtlcdffhhimbbmaaDoor
