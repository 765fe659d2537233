/-
  DERIVED. GIVEN WITH THE SEED: THE CARDS: each row of YtjmmmpnpkialjaaDoorRows.lean that lists a variable, with what it lists TIED to the program's text (the seventh form; the later family's looks); each row that meets fmt, with fmt's text TOLD by the authors' own Lean function (tested against real Go, not proved from fmt's source: count such statements apart). THE CARD IS WHAT COUNTS. Prove the row's statement (the work); the ties are given (YtjmmmpnpkialjaaDoorTie.lean); close each card by the builder's one call (the guide's Derived/Test/ToyasCard.lean, 'card_holds'). Laid BY PROGRAM, IN A SANDBOX (cutbox-door.mjs). By AI agents, Wed Nov 11 2026. No macro, syntax, notation, axiom, sorry.
-/
import Derived.Test.YtjmmmpnpkialjaaDoorRows
import GoSem.ClaimSeven
namespace Go.Proofs.YtjmmmpnpkialjaaDoor
namespace Rows

/-- THE TIED CARD OF 'cortegelaw17.RequestLays'. -/
def requestLaysCard : Claim7 := { stood := { row := requestLaysRow, standIns := [], harness := (true, "c4be9e7f0cdbaae3bf531276a3d215d8076bde4fb581a78ccccc1d3c7d66db3a"), looks := false }, kinds := [], alts := [], laidByText := true, laidKinds := [.data, .pinned], laidTests := true, laidLooks := .later }
def RequestLaysCardSaid : Prop := Claim7.holds Tryd.pinned (.plain (OpenSpec.ofChange requestLaysSpec)) requestLaysCard

/-- THE TIED CARD OF 'cortegelaw17.RequestReads'. -/
def requestReadsCard : Claim7 := { stood := { row := requestReadsRow, standIns := [], harness := (true, "c4be9e7f0cdbaae3bf531276a3d215d8076bde4fb581a78ccccc1d3c7d66db3a"), looks := false }, kinds := [], alts := [], laidByText := true, laidKinds := [.data, .pinned], laidTests := true, laidLooks := .later }
def RequestReadsCardSaid : Prop := Claim7.holds Tryd.pinned (.plain (OpenSpec.ofChange requestReadsSpec)) requestReadsCard

/-- THE TIED CARD OF 'cortegelaw17.RequestBack'. -/
def requestBackCard : Claim7 := { stood := { row := requestBackRow, standIns := [], harness := (true, "c4be9e7f0cdbaae3bf531276a3d215d8076bde4fb581a78ccccc1d3c7d66db3a"), looks := false }, kinds := [], alts := [], laidByText := true, laidKinds := [.data, .pinned], laidTests := true, laidLooks := .later }
def RequestBackCardSaid : Prop := Claim7.holds Tryd.pinned (.plain (OpenSpec.ofChange requestBackSpec)) requestBackCard

/-- THE TIED CARD OF 'cortegelaw17.RequestFields'. -/
def requestFieldsCard : Claim7 := { stood := { row := requestFieldsRow, standIns := [], harness := (true, "c4be9e7f0cdbaae3bf531276a3d215d8076bde4fb581a78ccccc1d3c7d66db3a"), looks := false }, kinds := [], alts := [], laidByText := true, laidKinds := [.data, .pinned], laidTests := true, laidLooks := .later }
def RequestFieldsCardSaid : Prop := Claim7.holds Tryd.pinned (.plain (OpenSpec.ofChange requestFieldsSpec)) requestFieldsCard

/-- THE TIED CARD OF 'cortegelaw18.RecordWhole'. -/
def recordWholeCard : Claim7 := { stood := { row := recordWholeRow, standIns := [], harness := (true, "c4be9e7f0cdbaae3bf531276a3d215d8076bde4fb581a78ccccc1d3c7d66db3a"), looks := false }, kinds := [], alts := [], laidByText := true, laidKinds := [.data, .pinned], laidTests := true, laidLooks := .later }
def RecordWholeCardSaid : Prop := Claim7.holds Tryd.pinned (.plain (OpenSpec.ofChange recordWholeSpec)) recordWholeCard

/-- THE TIED CARD OF 'cortegelaw18.RecordTimes'. -/
def recordTimesCard : Claim7 := { stood := { row := recordTimesRow, standIns := [], harness := (true, "c4be9e7f0cdbaae3bf531276a3d215d8076bde4fb581a78ccccc1d3c7d66db3a"), looks := false }, kinds := [], alts := [], laidByText := true, laidKinds := [.data, .pinned], laidTests := true, laidLooks := .later }
def RecordTimesCardSaid : Prop := Claim7.holds Tryd.pinned (.plain (OpenSpec.ofChange recordTimesSpec)) recordTimesCard

/-- THE TIED CARD OF 'cortegelaw18.RecordJoins'. -/
def recordJoinsCard : Claim7 := { stood := { row := recordJoinsRow, standIns := [], harness := (true, "c4be9e7f0cdbaae3bf531276a3d215d8076bde4fb581a78ccccc1d3c7d66db3a"), looks := false }, kinds := [], alts := [], laidByText := true, laidKinds := [.data, .pinned], laidTests := true, laidLooks := .later }
def RecordJoinsCardSaid : Prop := Claim7.holds Tryd.pinned (.plain (OpenSpec.ofChange recordJoinsSpec)) recordJoinsCard

/-- THE SECOND FORM's CARD OF 'cortegelaw17.RequestLays'. -/
def requestLaysUptoCard : Claim7 := { stood := { row := requestLaysUptoRow, standIns := [], harness := (true, "c4be9e7f0cdbaae3bf531276a3d215d8076bde4fb581a78ccccc1d3c7d66db3a"), looks := false }, kinds := [], alts := [], laidByText := true, laidKinds := [.data, .pinned], laidTests := true, laidLooks := .later }
def RequestLaysUptoCardSaid : Prop := Claim7.holds Tryd.pinned (.plain (OpenSpec.upto requestLaysSpec)) requestLaysUptoCard

/-- THE SECOND FORM's CARD OF 'cortegelaw17.RequestReads'. -/
def requestReadsUptoCard : Claim7 := { stood := { row := requestReadsUptoRow, standIns := [], harness := (true, "c4be9e7f0cdbaae3bf531276a3d215d8076bde4fb581a78ccccc1d3c7d66db3a"), looks := false }, kinds := [], alts := [], laidByText := true, laidKinds := [.data, .pinned], laidTests := true, laidLooks := .later }
def RequestReadsUptoCardSaid : Prop := Claim7.holds Tryd.pinned (.plain (OpenSpec.upto requestReadsSpec)) requestReadsUptoCard

/-- THE SECOND FORM's CARD OF 'cortegelaw17.RequestBack'. -/
def requestBackUptoCard : Claim7 := { stood := { row := requestBackUptoRow, standIns := [], harness := (true, "c4be9e7f0cdbaae3bf531276a3d215d8076bde4fb581a78ccccc1d3c7d66db3a"), looks := false }, kinds := [], alts := [], laidByText := true, laidKinds := [.data, .pinned], laidTests := true, laidLooks := .later }
def RequestBackUptoCardSaid : Prop := Claim7.holds Tryd.pinned (.plain (OpenSpec.upto requestBackSpec)) requestBackUptoCard

/-- THE SECOND FORM's CARD OF 'cortegelaw17.RequestFields'. -/
def requestFieldsUptoCard : Claim7 := { stood := { row := requestFieldsUptoRow, standIns := [], harness := (true, "c4be9e7f0cdbaae3bf531276a3d215d8076bde4fb581a78ccccc1d3c7d66db3a"), looks := false }, kinds := [], alts := [], laidByText := true, laidKinds := [.data, .pinned], laidTests := true, laidLooks := .later }
def RequestFieldsUptoCardSaid : Prop := Claim7.holds Tryd.pinned (.plain (OpenSpec.upto requestFieldsSpec)) requestFieldsUptoCard

/-- THE SECOND FORM's CARD OF 'cortegelaw18.RecordWhole'. -/
def recordWholeUptoCard : Claim7 := { stood := { row := recordWholeUptoRow, standIns := [], harness := (true, "c4be9e7f0cdbaae3bf531276a3d215d8076bde4fb581a78ccccc1d3c7d66db3a"), looks := false }, kinds := [], alts := [], laidByText := true, laidKinds := [.data, .pinned], laidTests := true, laidLooks := .later }
def RecordWholeUptoCardSaid : Prop := Claim7.holds Tryd.pinned (.plain (OpenSpec.upto recordWholeSpec)) recordWholeUptoCard

/-- THE SECOND FORM's CARD OF 'cortegelaw18.RecordTimes'. -/
def recordTimesUptoCard : Claim7 := { stood := { row := recordTimesUptoRow, standIns := [], harness := (true, "c4be9e7f0cdbaae3bf531276a3d215d8076bde4fb581a78ccccc1d3c7d66db3a"), looks := false }, kinds := [], alts := [], laidByText := true, laidKinds := [.data, .pinned], laidTests := true, laidLooks := .later }
def RecordTimesUptoCardSaid : Prop := Claim7.holds Tryd.pinned (.plain (OpenSpec.upto recordTimesSpec)) recordTimesUptoCard

/-- THE SECOND FORM's CARD OF 'cortegelaw18.RecordJoins'. -/
def recordJoinsUptoCard : Claim7 := { stood := { row := recordJoinsUptoRow, standIns := [], harness := (true, "c4be9e7f0cdbaae3bf531276a3d215d8076bde4fb581a78ccccc1d3c7d66db3a"), looks := false }, kinds := [], alts := [], laidByText := true, laidKinds := [.data, .pinned], laidTests := true, laidLooks := .later }
def RecordJoinsUptoCardSaid : Prop := Claim7.holds Tryd.pinned (.plain (OpenSpec.upto recordJoinsSpec)) recordJoinsUptoCard
end Rows
end Go.Proofs.YtjmmmpnpkialjaaDoor
