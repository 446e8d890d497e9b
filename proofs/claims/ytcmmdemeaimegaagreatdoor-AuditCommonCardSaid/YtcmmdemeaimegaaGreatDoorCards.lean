/-
  DERIVED. GIVEN WITH THE SEED: THE CARDS: each row of YtcmmdemeaimegaaGreatDoorRows.lean that lists a variable, with what it lists TIED to the program's text (the seventh form; the later family's looks); each row that meets fmt, with fmt's text TOLD by the authors' own Lean function (tested against real Go, not proved from fmt's source: count such statements apart). THE CARD IS WHAT COUNTS. Prove the row's statement (the work); the ties are given (YtcmmdemeaimegaaGreatDoorTie.lean); close each card by the builder's one call (the guide's Derived/Test/ToyasCard.lean, 'card_holds'). Laid BY PROGRAM, IN A SANDBOX (cutbox-door.mjs). By AI agents, Wed Nov 11 2026. No macro, syntax, notation, axiom, sorry.
-/
import Derived.Test.YtcmmdemeaimegaaGreatDoorRows
import GoSem.ClaimSeven
namespace Go.Proofs.YtcmmdemeaimegaaGreatDoor
namespace Rows

/-- THE TIED CARD OF 'undercroftlaw11.OpsLook'. -/
def opsLookCard : Claim7 := { stood := { row := opsLookRow, standIns := [], harness := (true, "a1466d6f130501e3b5cc440aae60509b7300028bd32af7d4dc8e6dc415007a21"), looks := true }, kinds := [], alts := [], laidByText := true, laidKinds := [.data, .handle, .pinned], laidTests := true, laidLooks := .later }
def OpsLookCardSaid : Prop := Claim7.holds Tryz.pinned (.plain (OpenSpec.ofChange opsLookSpec)) opsLookCard

/-- THE TIED CARD OF 'undercroftlaw11.OpsRuns'. -/
def opsRunsCard : Claim7 := { stood := { row := opsRunsRow, standIns := [], harness := (true, "a1466d6f130501e3b5cc440aae60509b7300028bd32af7d4dc8e6dc415007a21"), looks := true }, kinds := [], alts := [], laidByText := true, laidKinds := [.data, .handle, .pinned], laidTests := true, laidLooks := .later }
def OpsRunsCardSaid : Prop := Claim7.holds Tryz.pinned (.plain (OpenSpec.ofChange opsRunsSpec)) opsRunsCard

/-- THE TIED CARD OF 'undercroftlaw11.OpsTells'. -/
def opsTellsCard : Claim7 := { stood := { row := opsTellsRow, standIns := [], harness := (true, "a1466d6f130501e3b5cc440aae60509b7300028bd32af7d4dc8e6dc415007a21"), looks := true }, kinds := [], alts := [], laidByText := true, laidKinds := [.data, .handle, .pinned], laidTests := true, laidLooks := .later }
def OpsTellsCardSaid : Prop := Claim7.holds Tryz.pinned (.plain (OpenSpec.ofChange opsTellsSpec)) opsTellsCard

/-- THE TIED CARD OF 'undercroftlaw11.OpsReplies'. -/
def opsRepliesCard : Claim7 := { stood := { row := opsRepliesRow, standIns := [], harness := (true, "a1466d6f130501e3b5cc440aae60509b7300028bd32af7d4dc8e6dc415007a21"), looks := true }, kinds := [], alts := [], laidByText := true, laidKinds := [.data, .handle, .pinned], laidTests := true, laidLooks := .later }
def OpsRepliesCardSaid : Prop := Claim7.holds Tryz.pinned (.plain (OpenSpec.ofChange opsRepliesSpec)) opsRepliesCard

/-- THE TIED CARD OF 'undercroftlaw11.OpsBack'. -/
def opsBackCard : Claim7 := { stood := { row := opsBackRow, standIns := [], harness := (true, "a1466d6f130501e3b5cc440aae60509b7300028bd32af7d4dc8e6dc415007a21"), looks := true }, kinds := [], alts := [], laidByText := true, laidKinds := [.data, .handle, .pinned], laidTests := true, laidLooks := .later }
def OpsBackCardSaid : Prop := Claim7.holds Tryz.pinned (.plain (OpenSpec.ofChange opsBackSpec)) opsBackCard

/-- THE TIED CARD OF 'undercroftlaw23.AuditCommon'. -/
def auditCommonCard : Claim7 := { stood := { row := auditCommonRow, standIns := [], harness := (true, "a1466d6f130501e3b5cc440aae60509b7300028bd32af7d4dc8e6dc415007a21"), looks := true }, kinds := [], alts := [], laidByText := true, laidKinds := [.data, .handle, .pinned], laidTests := true, laidLooks := .later }
def AuditCommonCardSaid : Prop := Claim7.holds Tryz.pinned (.plain (OpenSpec.ofChange auditCommonSpec)) auditCommonCard

/-- THE TIED CARD OF 'undercroftlaw23.AuditBegins'. -/
def auditBeginsCard : Claim7 := { stood := { row := auditBeginsRow, standIns := [], harness := (true, "a1466d6f130501e3b5cc440aae60509b7300028bd32af7d4dc8e6dc415007a21"), looks := true }, kinds := [], alts := [], laidByText := true, laidKinds := [.data, .handle, .pinned], laidTests := true, laidLooks := .later }
def AuditBeginsCardSaid : Prop := Claim7.holds Tryz.pinned (.plain (OpenSpec.ofChange auditBeginsSpec)) auditBeginsCard

/-- THE TIED CARD OF 'undercroftlaw23.AuditTells'. -/
def auditTellsCard : Claim7 := { stood := { row := auditTellsRow, standIns := [], harness := (true, "a1466d6f130501e3b5cc440aae60509b7300028bd32af7d4dc8e6dc415007a21"), looks := true }, kinds := [], alts := [], laidByText := true, laidKinds := [.data, .handle, .pinned], laidTests := true, laidLooks := .later }
def AuditTellsCardSaid : Prop := Claim7.holds Tryz.pinned (.plain (OpenSpec.ofChange auditTellsSpec)) auditTellsCard

/-- THE TIED CARD OF 'undercroftlaw23.AuditTrue'. -/
def auditTrueCard : Claim7 := { stood := { row := auditTrueRow, standIns := [], harness := (true, "a1466d6f130501e3b5cc440aae60509b7300028bd32af7d4dc8e6dc415007a21"), looks := true }, kinds := [], alts := [], laidByText := true, laidKinds := [.data, .handle, .pinned], laidTests := true, laidLooks := .later }
def AuditTrueCardSaid : Prop := Claim7.holds Tryz.pinned (.plain (OpenSpec.ofChange auditTrueSpec)) auditTrueCard

/-- THE TIED CARD OF 'undercroftlaw23.AuditOwn'. -/
def auditOwnCard : Claim7 := { stood := { row := auditOwnRow, standIns := [], harness := (true, "a1466d6f130501e3b5cc440aae60509b7300028bd32af7d4dc8e6dc415007a21"), looks := true }, kinds := [], alts := [], laidByText := true, laidKinds := [.data, .handle, .pinned], laidTests := true, laidLooks := .later }
def AuditOwnCardSaid : Prop := Claim7.holds Tryz.pinned (.plain (OpenSpec.ofChange auditOwnSpec)) auditOwnCard

/-- THE SECOND FORM's CARD OF 'undercroftlaw11.OpsLook'. -/
def opsLookUptoCard : Claim7 := { stood := { row := opsLookUptoRow, standIns := [], harness := (true, "a1466d6f130501e3b5cc440aae60509b7300028bd32af7d4dc8e6dc415007a21"), looks := true }, kinds := [], alts := [], laidByText := true, laidKinds := [.data, .handle, .pinned], laidTests := true, laidLooks := .later }
def OpsLookUptoCardSaid : Prop := Claim7.holds Tryz.pinned (.plain (OpenSpec.upto opsLookSpec)) opsLookUptoCard

/-- THE SECOND FORM's CARD OF 'undercroftlaw11.OpsRuns'. -/
def opsRunsUptoCard : Claim7 := { stood := { row := opsRunsUptoRow, standIns := [], harness := (true, "a1466d6f130501e3b5cc440aae60509b7300028bd32af7d4dc8e6dc415007a21"), looks := true }, kinds := [], alts := [], laidByText := true, laidKinds := [.data, .handle, .pinned], laidTests := true, laidLooks := .later }
def OpsRunsUptoCardSaid : Prop := Claim7.holds Tryz.pinned (.plain (OpenSpec.upto opsRunsSpec)) opsRunsUptoCard

/-- THE SECOND FORM's CARD OF 'undercroftlaw11.OpsTells'. -/
def opsTellsUptoCard : Claim7 := { stood := { row := opsTellsUptoRow, standIns := [], harness := (true, "a1466d6f130501e3b5cc440aae60509b7300028bd32af7d4dc8e6dc415007a21"), looks := true }, kinds := [], alts := [], laidByText := true, laidKinds := [.data, .handle, .pinned], laidTests := true, laidLooks := .later }
def OpsTellsUptoCardSaid : Prop := Claim7.holds Tryz.pinned (.plain (OpenSpec.upto opsTellsSpec)) opsTellsUptoCard

/-- THE SECOND FORM's CARD OF 'undercroftlaw11.OpsReplies'. -/
def opsRepliesUptoCard : Claim7 := { stood := { row := opsRepliesUptoRow, standIns := [], harness := (true, "a1466d6f130501e3b5cc440aae60509b7300028bd32af7d4dc8e6dc415007a21"), looks := true }, kinds := [], alts := [], laidByText := true, laidKinds := [.data, .handle, .pinned], laidTests := true, laidLooks := .later }
def OpsRepliesUptoCardSaid : Prop := Claim7.holds Tryz.pinned (.plain (OpenSpec.upto opsRepliesSpec)) opsRepliesUptoCard

/-- THE SECOND FORM's CARD OF 'undercroftlaw11.OpsBack'. -/
def opsBackUptoCard : Claim7 := { stood := { row := opsBackUptoRow, standIns := [], harness := (true, "a1466d6f130501e3b5cc440aae60509b7300028bd32af7d4dc8e6dc415007a21"), looks := true }, kinds := [], alts := [], laidByText := true, laidKinds := [.data, .handle, .pinned], laidTests := true, laidLooks := .later }
def OpsBackUptoCardSaid : Prop := Claim7.holds Tryz.pinned (.plain (OpenSpec.upto opsBackSpec)) opsBackUptoCard

/-- THE SECOND FORM's CARD OF 'undercroftlaw23.AuditCommon'. -/
def auditCommonUptoCard : Claim7 := { stood := { row := auditCommonUptoRow, standIns := [], harness := (true, "a1466d6f130501e3b5cc440aae60509b7300028bd32af7d4dc8e6dc415007a21"), looks := true }, kinds := [], alts := [], laidByText := true, laidKinds := [.data, .handle, .pinned], laidTests := true, laidLooks := .later }
def AuditCommonUptoCardSaid : Prop := Claim7.holds Tryz.pinned (.plain (OpenSpec.upto auditCommonSpec)) auditCommonUptoCard

/-- THE SECOND FORM's CARD OF 'undercroftlaw23.AuditBegins'. -/
def auditBeginsUptoCard : Claim7 := { stood := { row := auditBeginsUptoRow, standIns := [], harness := (true, "a1466d6f130501e3b5cc440aae60509b7300028bd32af7d4dc8e6dc415007a21"), looks := true }, kinds := [], alts := [], laidByText := true, laidKinds := [.data, .handle, .pinned], laidTests := true, laidLooks := .later }
def AuditBeginsUptoCardSaid : Prop := Claim7.holds Tryz.pinned (.plain (OpenSpec.upto auditBeginsSpec)) auditBeginsUptoCard

/-- THE SECOND FORM's CARD OF 'undercroftlaw23.AuditTells'. -/
def auditTellsUptoCard : Claim7 := { stood := { row := auditTellsUptoRow, standIns := [], harness := (true, "a1466d6f130501e3b5cc440aae60509b7300028bd32af7d4dc8e6dc415007a21"), looks := true }, kinds := [], alts := [], laidByText := true, laidKinds := [.data, .handle, .pinned], laidTests := true, laidLooks := .later }
def AuditTellsUptoCardSaid : Prop := Claim7.holds Tryz.pinned (.plain (OpenSpec.upto auditTellsSpec)) auditTellsUptoCard

/-- THE SECOND FORM's CARD OF 'undercroftlaw23.AuditTrue'. -/
def auditTrueUptoCard : Claim7 := { stood := { row := auditTrueUptoRow, standIns := [], harness := (true, "a1466d6f130501e3b5cc440aae60509b7300028bd32af7d4dc8e6dc415007a21"), looks := true }, kinds := [], alts := [], laidByText := true, laidKinds := [.data, .handle, .pinned], laidTests := true, laidLooks := .later }
def AuditTrueUptoCardSaid : Prop := Claim7.holds Tryz.pinned (.plain (OpenSpec.upto auditTrueSpec)) auditTrueUptoCard

/-- THE SECOND FORM's CARD OF 'undercroftlaw23.AuditOwn'. -/
def auditOwnUptoCard : Claim7 := { stood := { row := auditOwnUptoRow, standIns := [], harness := (true, "a1466d6f130501e3b5cc440aae60509b7300028bd32af7d4dc8e6dc415007a21"), looks := true }, kinds := [], alts := [], laidByText := true, laidKinds := [.data, .handle, .pinned], laidTests := true, laidLooks := .later }
def AuditOwnUptoCardSaid : Prop := Claim7.holds Tryz.pinned (.plain (OpenSpec.upto auditOwnSpec)) auditOwnUptoCard
end Rows
end Go.Proofs.YtcmmdemeaimegaaGreatDoor
