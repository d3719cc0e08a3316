/-
  DERIVED. GIVEN WITH THE SEED: THE CARDS: each row of YtfiobbhicicchaaDoorRows.lean that lists a variable, with what it lists TIED to the program's text (the seventh form; the later family's looks); each row that meets fmt, with fmt's text TOLD by the authors' own Lean function (tested against real Go, not proved from fmt's source: count such statements apart). THE CARD IS WHAT COUNTS. Prove the row's statement (the work); the ties are given (YtfiobbhicicchaaDoorTie.lean); close each card by the builder's one call (the guide's Derived/Test/ToyasCard.lean, 'card_holds'). Laid BY PROGRAM, IN A SANDBOX (cutbox-door.mjs). By AI agents, Wed Nov 11 2026. No macro, syntax, notation, axiom, sorry.
-/
import Derived.Test.YtfiobbhicicchaaDoorRows
import GoSem.ClaimSeven
namespace Go.Proofs.YtfiobbhicicchaaDoor
namespace Rows

/-- THE TIED CARD OF 'scrimlaw33.AuditAllows'. -/
def auditAllowsCard : Claim7 := { stood := { row := auditAllowsRow, standIns := [], harness := (true, "60d79e3c4a46a67bcfc736f1fe0f0c13fa47df61b5fcb1beb30f6304a11a4bd6"), looks := false }, kinds := [], alts := [], laidByText := true, laidKinds := [.data, .data, .data], laidTests := true, laidLooks := .later }
def AuditAllowsCardSaid : Prop := Claim7.holds Tryd.pinned (.plain (OpenSpec.ofChange auditAllowsSpec)) auditAllowsCard

/-- THE TIED CARD OF 'scrimlaw33.AuditReach'. -/
def auditReachCard : Claim7 := { stood := { row := auditReachRow, standIns := [], harness := (true, "60d79e3c4a46a67bcfc736f1fe0f0c13fa47df61b5fcb1beb30f6304a11a4bd6"), looks := false }, kinds := [], alts := [], laidByText := true, laidKinds := [.data, .data, .data], laidTests := true, laidLooks := .later }
def AuditReachCardSaid : Prop := Claim7.holds Tryd.pinned (.plain (OpenSpec.ofChange auditReachSpec)) auditReachCard

/-- THE TIED CARD OF 'scrimlaw33.AuditTells'. -/
def auditTellsCard : Claim7 := { stood := { row := auditTellsRow, standIns := [], harness := (true, "60d79e3c4a46a67bcfc736f1fe0f0c13fa47df61b5fcb1beb30f6304a11a4bd6"), looks := false }, kinds := [], alts := [], laidByText := true, laidKinds := [.data, .data, .data], laidTests := true, laidLooks := .later }
def AuditTellsCardSaid : Prop := Claim7.holds Tryd.pinned (.plain (OpenSpec.ofChange auditTellsSpec)) auditTellsCard

/-- THE SECOND FORM's CARD OF 'scrimlaw33.AuditAllows'. -/
def auditAllowsUptoCard : Claim7 := { stood := { row := auditAllowsUptoRow, standIns := [], harness := (true, "60d79e3c4a46a67bcfc736f1fe0f0c13fa47df61b5fcb1beb30f6304a11a4bd6"), looks := false }, kinds := [], alts := [], laidByText := true, laidKinds := [.data, .data, .data], laidTests := true, laidLooks := .later }
def AuditAllowsUptoCardSaid : Prop := Claim7.holds Tryd.pinned (.plain (OpenSpec.upto auditAllowsSpec)) auditAllowsUptoCard

/-- THE SECOND FORM's CARD OF 'scrimlaw33.AuditReach'. -/
def auditReachUptoCard : Claim7 := { stood := { row := auditReachUptoRow, standIns := [], harness := (true, "60d79e3c4a46a67bcfc736f1fe0f0c13fa47df61b5fcb1beb30f6304a11a4bd6"), looks := false }, kinds := [], alts := [], laidByText := true, laidKinds := [.data, .data, .data], laidTests := true, laidLooks := .later }
def AuditReachUptoCardSaid : Prop := Claim7.holds Tryd.pinned (.plain (OpenSpec.upto auditReachSpec)) auditReachUptoCard

/-- THE SECOND FORM's CARD OF 'scrimlaw33.AuditTells'. -/
def auditTellsUptoCard : Claim7 := { stood := { row := auditTellsUptoRow, standIns := [], harness := (true, "60d79e3c4a46a67bcfc736f1fe0f0c13fa47df61b5fcb1beb30f6304a11a4bd6"), looks := false }, kinds := [], alts := [], laidByText := true, laidKinds := [.data, .data, .data], laidTests := true, laidLooks := .later }
def AuditTellsUptoCardSaid : Prop := Claim7.holds Tryd.pinned (.plain (OpenSpec.upto auditTellsSpec)) auditTellsUptoCard
end Rows
end Go.Proofs.YtfiobbhicicchaaDoor
