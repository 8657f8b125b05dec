/-
  DERIVED. GIVEN WITH THE SEED: THE CARDS: each row of YtcbhaeniahckhaaDoorRows.lean that lists a variable, with what it lists TIED to the program's text (the seventh form; the later family's looks); each row that meets fmt, with fmt's text TOLD by the authors' own Lean function (tested against real Go, not proved from fmt's source: count such statements apart). THE CARD IS WHAT COUNTS. Prove the row's statement (the work); the ties are given (YtcbhaeniahckhaaDoorTie.lean); close each card by the builder's one call (the guide's Derived/Test/ToyasCard.lean, 'card_holds'). Laid BY PROGRAM, IN A SANDBOX (cutbox-door.mjs). By AI agents, Wed Nov 11 2026. No macro, syntax, notation, axiom, sorry.
-/
import Derived.Test.YtcbhaeniahckhaaDoorRows
import GoSem.ClaimSeven
namespace Go.Proofs.YtcbhaeniahckhaaDoor
namespace Rows

/-- THE TIED CARD OF 'examinertop.ConformProved'. -/
def conformProvedCard : Claim7 := { stood := { row := conformProvedRow, standIns := [], harness := (true, "32b3cf3274cd1e1571919e00e84c411b66a5fd2ad47cdd890b679ff7be341b63"), looks := false }, kinds := [], alts := [], laidByText := true, laidKinds := [.data, .data], laidTests := true, laidLooks := .later }
def ConformProvedCardSaid : Prop := Claim7.holds Tryd.pinned (.plain (OpenSpec.ofChange conformProvedSpec)) conformProvedCard

/-- THE TIED CARD OF 'examinertop.SystemsRenumbered'. -/
def systemsRenumberedCard : Claim7 := { stood := { row := systemsRenumberedRow, standIns := [], harness := (true, "32b3cf3274cd1e1571919e00e84c411b66a5fd2ad47cdd890b679ff7be341b63"), looks := false }, kinds := [], alts := [], laidByText := true, laidKinds := [.data, .data], laidTests := true, laidLooks := .later }
def SystemsRenumberedCardSaid : Prop := Claim7.holds Tryd.pinned (.plain (OpenSpec.ofChange systemsRenumberedSpec)) systemsRenumberedCard

/-- THE SECOND FORM's CARD OF 'examinertop.ConformProved'. -/
def conformProvedUptoCard : Claim7 := { stood := { row := conformProvedUptoRow, standIns := [], harness := (true, "32b3cf3274cd1e1571919e00e84c411b66a5fd2ad47cdd890b679ff7be341b63"), looks := false }, kinds := [], alts := [], laidByText := true, laidKinds := [.data, .data], laidTests := true, laidLooks := .later }
def ConformProvedUptoCardSaid : Prop := Claim7.holds Tryd.pinned (.plain (OpenSpec.upto conformProvedSpec)) conformProvedUptoCard

/-- THE SECOND FORM's CARD OF 'examinertop.SystemsRenumbered'. -/
def systemsRenumberedUptoCard : Claim7 := { stood := { row := systemsRenumberedUptoRow, standIns := [], harness := (true, "32b3cf3274cd1e1571919e00e84c411b66a5fd2ad47cdd890b679ff7be341b63"), looks := false }, kinds := [], alts := [], laidByText := true, laidKinds := [.data, .data], laidTests := true, laidLooks := .later }
def SystemsRenumberedUptoCardSaid : Prop := Claim7.holds Tryd.pinned (.plain (OpenSpec.upto systemsRenumberedSpec)) systemsRenumberedUptoCard
end Rows
end Go.Proofs.YtcbhaeniahckhaaDoor
