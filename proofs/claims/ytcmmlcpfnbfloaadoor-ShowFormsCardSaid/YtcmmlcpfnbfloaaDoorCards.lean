/-
  DERIVED. GIVEN WITH THE SEED: THE CARDS: each row of YtcmmlcpfnbfloaaDoorRows.lean that lists a variable, with what it lists TIED to the program's text (the seventh form; the later family's looks); each row that meets fmt, with fmt's text TOLD by the authors' own Lean function (tested against real Go, not proved from fmt's source: count such statements apart). THE CARD IS WHAT COUNTS. Prove the row's statement (the work); the ties are given (YtcmmlcpfnbfloaaDoorTie.lean); close each card by the builder's one call (the guide's Derived/Test/ToyasCard.lean, 'card_holds'). Laid BY PROGRAM, IN A SANDBOX (cutbox-door.mjs). By AI agents, Wed Nov 11 2026. No macro, syntax, notation, axiom, sorry.
-/
import Derived.Test.YtcmmlcpfnbfloaaDoorRows
import GoSem.ClaimSeven
namespace Go.Proofs.YtcmmlcpfnbfloaaDoor
namespace Rows

/-- THE TIED CARD OF 'augurylaw25.ShowForms'. -/
def showFormsCard : Claim7 := { stood := { row := showFormsRow, standIns := [], harness := (true, "859c21dc3b58f0ace05b9adda9cd2334f072dcf39c947b12ed578a79f55d962e"), looks := false }, kinds := [], alts := [], laidByText := true, laidKinds := [.data, .data, .data], laidTests := true, laidLooks := .later }
def ShowFormsCardSaid : Prop := Claim7.holds Tryd.pinned (.plain (OpenSpec.ofChange showFormsSpec)) showFormsCard

/-- THE TIED CARD OF 'augurylaw25.ShowTurned'. -/
def showTurnedCard : Claim7 := { stood := { row := showTurnedRow, standIns := [], harness := (true, "859c21dc3b58f0ace05b9adda9cd2334f072dcf39c947b12ed578a79f55d962e"), looks := false }, kinds := [], alts := [], laidByText := true, laidKinds := [.data, .data, .data], laidTests := true, laidLooks := .later }
def ShowTurnedCardSaid : Prop := Claim7.holds Tryd.pinned (.plain (OpenSpec.ofChange showTurnedSpec)) showTurnedCard

/-- THE TIED CARD OF 'augurylaw25.ShowTells'. -/
def showTellsCard : Claim7 := { stood := { row := showTellsRow, standIns := [], harness := (true, "859c21dc3b58f0ace05b9adda9cd2334f072dcf39c947b12ed578a79f55d962e"), looks := false }, kinds := [], alts := [], laidByText := true, laidKinds := [.data, .data, .data], laidTests := true, laidLooks := .later }
def ShowTellsCardSaid : Prop := Claim7.holds Tryd.pinned (.plain (OpenSpec.ofChange showTellsSpec)) showTellsCard

/-- THE TIED CARD OF 'augurylaw25.ShowBack'. -/
def showBackCard : Claim7 := { stood := { row := showBackRow, standIns := [], harness := (true, "859c21dc3b58f0ace05b9adda9cd2334f072dcf39c947b12ed578a79f55d962e"), looks := false }, kinds := [], alts := [], laidByText := true, laidKinds := [.data, .data, .data], laidTests := true, laidLooks := .later }
def ShowBackCardSaid : Prop := Claim7.holds Tryd.pinned (.plain (OpenSpec.ofChange showBackSpec)) showBackCard

/-- THE SECOND FORM's CARD OF 'augurylaw25.ShowForms'. -/
def showFormsUptoCard : Claim7 := { stood := { row := showFormsUptoRow, standIns := [], harness := (true, "859c21dc3b58f0ace05b9adda9cd2334f072dcf39c947b12ed578a79f55d962e"), looks := false }, kinds := [], alts := [], laidByText := true, laidKinds := [.data, .data, .data], laidTests := true, laidLooks := .later }
def ShowFormsUptoCardSaid : Prop := Claim7.holds Tryd.pinned (.plain (OpenSpec.upto showFormsSpec)) showFormsUptoCard

/-- THE SECOND FORM's CARD OF 'augurylaw25.ShowTurned'. -/
def showTurnedUptoCard : Claim7 := { stood := { row := showTurnedUptoRow, standIns := [], harness := (true, "859c21dc3b58f0ace05b9adda9cd2334f072dcf39c947b12ed578a79f55d962e"), looks := false }, kinds := [], alts := [], laidByText := true, laidKinds := [.data, .data, .data], laidTests := true, laidLooks := .later }
def ShowTurnedUptoCardSaid : Prop := Claim7.holds Tryd.pinned (.plain (OpenSpec.upto showTurnedSpec)) showTurnedUptoCard

/-- THE SECOND FORM's CARD OF 'augurylaw25.ShowTells'. -/
def showTellsUptoCard : Claim7 := { stood := { row := showTellsUptoRow, standIns := [], harness := (true, "859c21dc3b58f0ace05b9adda9cd2334f072dcf39c947b12ed578a79f55d962e"), looks := false }, kinds := [], alts := [], laidByText := true, laidKinds := [.data, .data, .data], laidTests := true, laidLooks := .later }
def ShowTellsUptoCardSaid : Prop := Claim7.holds Tryd.pinned (.plain (OpenSpec.upto showTellsSpec)) showTellsUptoCard

/-- THE SECOND FORM's CARD OF 'augurylaw25.ShowBack'. -/
def showBackUptoCard : Claim7 := { stood := { row := showBackUptoRow, standIns := [], harness := (true, "859c21dc3b58f0ace05b9adda9cd2334f072dcf39c947b12ed578a79f55d962e"), looks := false }, kinds := [], alts := [], laidByText := true, laidKinds := [.data, .data, .data], laidTests := true, laidLooks := .later }
def ShowBackUptoCardSaid : Prop := Claim7.holds Tryd.pinned (.plain (OpenSpec.upto showBackSpec)) showBackUptoCard
end Rows
end Go.Proofs.YtcmmlcpfnbfloaaDoor
