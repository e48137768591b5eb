/-
  DERIVED. GIVEN WITH THE SEED: THE CARDS: each row of YtnnmakkbnfckmaaDoorRows.lean that lists a variable, with what it lists TIED to the program's text (the seventh form; the later family's looks); each row that meets fmt, with fmt's text TOLD by the authors' own Lean function (tested against real Go, not proved from fmt's source: count such statements apart). THE CARD IS WHAT COUNTS. Prove the row's statement (the work); the ties are given (YtnnmakkbnfckmaaDoorTie.lean); close each card by the builder's one call (the guide's Derived/Test/ToyasCard.lean, 'card_holds'). Laid BY PROGRAM, IN A SANDBOX (cutbox-door.mjs). By AI agents, Wed Nov 11 2026. No macro, syntax, notation, axiom, sorry.
-/
import Derived.Test.YtnnmakkbnfckmaaDoorRows
import GoSem.ClaimSeven
namespace Go.Proofs.YtnnmakkbnfckmaaDoor
namespace Rows

/-- THE TIED CARD OF 'tocsinlaw8.JobSays'. -/
def jobSaysCard : Claim7 := { stood := { row := jobSaysRow, standIns := [], harness := (true, "335236df7cbe3ce673bc4ddebb90fff4ca86dbc52e82bf0694133fea5ed49751"), looks := false }, kinds := [], alts := [], laidByText := true, laidKinds := [.data, .data, .pinned, .pinned], laidTests := true, laidLooks := .later }
def JobSaysCardSaid : Prop := Claim7.holds Tryd.pinned (.plain (OpenSpec.ofChange jobSaysSpec)) jobSaysCard

/-- THE TIED CARD OF 'tocsinlaw8.JobOrder'. -/
def jobOrderCard : Claim7 := { stood := { row := jobOrderRow, standIns := [], harness := (true, "335236df7cbe3ce673bc4ddebb90fff4ca86dbc52e82bf0694133fea5ed49751"), looks := false }, kinds := [], alts := [], laidByText := true, laidKinds := [.data, .data, .pinned, .pinned], laidTests := true, laidLooks := .later }
def JobOrderCardSaid : Prop := Claim7.holds Tryd.pinned (.plain (OpenSpec.ofChange jobOrderSpec)) jobOrderCard

/-- THE TIED CARD OF 'tocsinlaw10.EdfSays'. -/
def edfSaysCard : Claim7 := { stood := { row := edfSaysRow, standIns := [], harness := (true, "335236df7cbe3ce673bc4ddebb90fff4ca86dbc52e82bf0694133fea5ed49751"), looks := false }, kinds := [], alts := [], laidByText := true, laidKinds := [.data, .data, .pinned, .pinned], laidTests := true, laidLooks := .later }
def EdfSaysCardSaid : Prop := Claim7.holds Tryd.pinned (.plain (OpenSpec.ofChange edfSaysSpec)) edfSaysCard

/-- THE TIED CARD OF 'tocsinlaw10.EdfLess'. -/
def edfLessCard : Claim7 := { stood := { row := edfLessRow, standIns := [], harness := (true, "335236df7cbe3ce673bc4ddebb90fff4ca86dbc52e82bf0694133fea5ed49751"), looks := false }, kinds := [], alts := [], laidByText := true, laidKinds := [.data, .data, .pinned, .pinned], laidTests := true, laidLooks := .later }
def EdfLessCardSaid : Prop := Claim7.holds Tryd.pinned (.plain (OpenSpec.ofChange edfLessSpec)) edfLessCard

/-- THE TIED CARD OF 'tocsinlaw10.EdfBest'. -/
def edfBestCard : Claim7 := { stood := { row := edfBestRow, standIns := [], harness := (true, "335236df7cbe3ce673bc4ddebb90fff4ca86dbc52e82bf0694133fea5ed49751"), looks := false }, kinds := [], alts := [], laidByText := true, laidKinds := [.data, .data, .pinned, .pinned], laidTests := true, laidLooks := .later }
def EdfBestCardSaid : Prop := Claim7.holds Tryd.pinned (.plain (OpenSpec.ofChange edfBestSpec)) edfBestCard

/-- THE TIED CARD OF 'tocsinlaw20.RobustRuns'. -/
def robustRunsCard : Claim7 := { stood := { row := robustRunsRow, standIns := [], harness := (true, "335236df7cbe3ce673bc4ddebb90fff4ca86dbc52e82bf0694133fea5ed49751"), looks := false }, kinds := [], alts := [], laidByText := true, laidKinds := [.data, .data, .pinned, .pinned], laidTests := true, laidLooks := .later }
def RobustRunsCardSaid : Prop := Claim7.holds Tryd.pinned (.plain (OpenSpec.ofChange robustRunsSpec)) robustRunsCard

/-- THE TIED CARD OF 'tocsinlaw20.RobustAlone'. -/
def robustAloneCard : Claim7 := { stood := { row := robustAloneRow, standIns := [], harness := (true, "335236df7cbe3ce673bc4ddebb90fff4ca86dbc52e82bf0694133fea5ed49751"), looks := false }, kinds := [], alts := [], laidByText := true, laidKinds := [.data, .data, .pinned, .pinned], laidTests := true, laidLooks := .later }
def RobustAloneCardSaid : Prop := Claim7.holds Tryd.pinned (.plain (OpenSpec.ofChange robustAloneSpec)) robustAloneCard

/-- THE TIED CARD OF 'tocsinlaw20.RobustSheds'. -/
def robustShedsCard : Claim7 := { stood := { row := robustShedsRow, standIns := [], harness := (true, "335236df7cbe3ce673bc4ddebb90fff4ca86dbc52e82bf0694133fea5ed49751"), looks := false }, kinds := [], alts := [], laidByText := true, laidKinds := [.data, .data, .pinned, .pinned], laidTests := true, laidLooks := .later }
def RobustShedsCardSaid : Prop := Claim7.holds Tryd.pinned (.plain (OpenSpec.ofChange robustShedsSpec)) robustShedsCard

/-- THE TIED CARD OF 'tocsinlaw19.DoverRuns'. -/
def doverRunsCard : Claim7 := { stood := { row := doverRunsRow, standIns := [], harness := (true, "335236df7cbe3ce673bc4ddebb90fff4ca86dbc52e82bf0694133fea5ed49751"), looks := false }, kinds := [], alts := [], laidByText := true, laidKinds := [.data, .data, .pinned, .pinned], laidTests := true, laidLooks := .later }
def DoverRunsCardSaid : Prop := Claim7.holds Tryd.pinned (.plain (OpenSpec.ofChange doverRunsSpec)) doverRunsCard

/-- THE SECOND FORM's CARD OF 'tocsinlaw8.JobSays'. -/
def jobSaysUptoCard : Claim7 := { stood := { row := jobSaysUptoRow, standIns := [], harness := (true, "335236df7cbe3ce673bc4ddebb90fff4ca86dbc52e82bf0694133fea5ed49751"), looks := false }, kinds := [], alts := [], laidByText := true, laidKinds := [.data, .data, .pinned, .pinned], laidTests := true, laidLooks := .later }
def JobSaysUptoCardSaid : Prop := Claim7.holds Tryd.pinned (.plain (OpenSpec.upto jobSaysSpec)) jobSaysUptoCard

/-- THE SECOND FORM's CARD OF 'tocsinlaw8.JobOrder'. -/
def jobOrderUptoCard : Claim7 := { stood := { row := jobOrderUptoRow, standIns := [], harness := (true, "335236df7cbe3ce673bc4ddebb90fff4ca86dbc52e82bf0694133fea5ed49751"), looks := false }, kinds := [], alts := [], laidByText := true, laidKinds := [.data, .data, .pinned, .pinned], laidTests := true, laidLooks := .later }
def JobOrderUptoCardSaid : Prop := Claim7.holds Tryd.pinned (.plain (OpenSpec.upto jobOrderSpec)) jobOrderUptoCard

/-- THE SECOND FORM's CARD OF 'tocsinlaw10.EdfSays'. -/
def edfSaysUptoCard : Claim7 := { stood := { row := edfSaysUptoRow, standIns := [], harness := (true, "335236df7cbe3ce673bc4ddebb90fff4ca86dbc52e82bf0694133fea5ed49751"), looks := false }, kinds := [], alts := [], laidByText := true, laidKinds := [.data, .data, .pinned, .pinned], laidTests := true, laidLooks := .later }
def EdfSaysUptoCardSaid : Prop := Claim7.holds Tryd.pinned (.plain (OpenSpec.upto edfSaysSpec)) edfSaysUptoCard

/-- THE SECOND FORM's CARD OF 'tocsinlaw10.EdfLess'. -/
def edfLessUptoCard : Claim7 := { stood := { row := edfLessUptoRow, standIns := [], harness := (true, "335236df7cbe3ce673bc4ddebb90fff4ca86dbc52e82bf0694133fea5ed49751"), looks := false }, kinds := [], alts := [], laidByText := true, laidKinds := [.data, .data, .pinned, .pinned], laidTests := true, laidLooks := .later }
def EdfLessUptoCardSaid : Prop := Claim7.holds Tryd.pinned (.plain (OpenSpec.upto edfLessSpec)) edfLessUptoCard

/-- THE SECOND FORM's CARD OF 'tocsinlaw10.EdfBest'. -/
def edfBestUptoCard : Claim7 := { stood := { row := edfBestUptoRow, standIns := [], harness := (true, "335236df7cbe3ce673bc4ddebb90fff4ca86dbc52e82bf0694133fea5ed49751"), looks := false }, kinds := [], alts := [], laidByText := true, laidKinds := [.data, .data, .pinned, .pinned], laidTests := true, laidLooks := .later }
def EdfBestUptoCardSaid : Prop := Claim7.holds Tryd.pinned (.plain (OpenSpec.upto edfBestSpec)) edfBestUptoCard

/-- THE SECOND FORM's CARD OF 'tocsinlaw20.RobustRuns'. -/
def robustRunsUptoCard : Claim7 := { stood := { row := robustRunsUptoRow, standIns := [], harness := (true, "335236df7cbe3ce673bc4ddebb90fff4ca86dbc52e82bf0694133fea5ed49751"), looks := false }, kinds := [], alts := [], laidByText := true, laidKinds := [.data, .data, .pinned, .pinned], laidTests := true, laidLooks := .later }
def RobustRunsUptoCardSaid : Prop := Claim7.holds Tryd.pinned (.plain (OpenSpec.upto robustRunsSpec)) robustRunsUptoCard

/-- THE SECOND FORM's CARD OF 'tocsinlaw20.RobustAlone'. -/
def robustAloneUptoCard : Claim7 := { stood := { row := robustAloneUptoRow, standIns := [], harness := (true, "335236df7cbe3ce673bc4ddebb90fff4ca86dbc52e82bf0694133fea5ed49751"), looks := false }, kinds := [], alts := [], laidByText := true, laidKinds := [.data, .data, .pinned, .pinned], laidTests := true, laidLooks := .later }
def RobustAloneUptoCardSaid : Prop := Claim7.holds Tryd.pinned (.plain (OpenSpec.upto robustAloneSpec)) robustAloneUptoCard

/-- THE SECOND FORM's CARD OF 'tocsinlaw20.RobustSheds'. -/
def robustShedsUptoCard : Claim7 := { stood := { row := robustShedsUptoRow, standIns := [], harness := (true, "335236df7cbe3ce673bc4ddebb90fff4ca86dbc52e82bf0694133fea5ed49751"), looks := false }, kinds := [], alts := [], laidByText := true, laidKinds := [.data, .data, .pinned, .pinned], laidTests := true, laidLooks := .later }
def RobustShedsUptoCardSaid : Prop := Claim7.holds Tryd.pinned (.plain (OpenSpec.upto robustShedsSpec)) robustShedsUptoCard

/-- THE SECOND FORM's CARD OF 'tocsinlaw19.DoverRuns'. -/
def doverRunsUptoCard : Claim7 := { stood := { row := doverRunsUptoRow, standIns := [], harness := (true, "335236df7cbe3ce673bc4ddebb90fff4ca86dbc52e82bf0694133fea5ed49751"), looks := false }, kinds := [], alts := [], laidByText := true, laidKinds := [.data, .data, .pinned, .pinned], laidTests := true, laidLooks := .later }
def DoverRunsUptoCardSaid : Prop := Claim7.holds Tryd.pinned (.plain (OpenSpec.upto doverRunsSpec)) doverRunsUptoCard
end Rows
end Go.Proofs.YtnnmakkbnfckmaaDoor
