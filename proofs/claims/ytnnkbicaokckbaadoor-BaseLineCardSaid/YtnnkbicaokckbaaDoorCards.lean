/-
  DERIVED. GIVEN WITH THE SEED: THE CARDS: each row of YtnnkbicaokckbaaDoorRows.lean that lists a variable, with what it lists TIED to the program's text (the seventh form; the later family's looks); each row that meets fmt, with fmt's text TOLD by the authors' own Lean function (tested against real Go, not proved from fmt's source: count such statements apart). THE CARD IS WHAT COUNTS. Prove the row's statement (the work); the ties are given (YtnnkbicaokckbaaDoorTie.lean); close each card by the builder's one call (the guide's Derived/Test/ToyasCard.lean, 'card_holds'). Laid BY PROGRAM, IN A SANDBOX (cutbox-door.mjs). By AI agents, Wed Nov 11 2026. No macro, syntax, notation, axiom, sorry.
-/
import Derived.Test.YtnnkbicaokckbaaDoorRows
import GoSem.ClaimSeven
namespace Go.Proofs.YtnnkbicaokckbaaDoor
namespace Rows

/-- THE TIED CARD OF 'cortegelaw10.RepoNumbers'. -/
def repoNumbersCard : Claim7 := { stood := { row := repoNumbersRow, standIns := [], harness := (true, "b8549941136c75f2c554eaf403c37bf8f3fce9d6a3edd6b504917a752e07b547"), looks := false }, kinds := [], alts := [], laidByText := true, laidKinds := [.data, .pinned], laidTests := true, laidLooks := .later }
def RepoNumbersCardSaid : Prop := Claim7.holds Tryd.pinned (.plain (OpenSpec.ofChange repoNumbersSpec)) repoNumbersCard

/-- THE TIED CARD OF 'cortegelaw10.RepoRoom'. -/
def repoRoomCard : Claim7 := { stood := { row := repoRoomRow, standIns := [], harness := (true, "b8549941136c75f2c554eaf403c37bf8f3fce9d6a3edd6b504917a752e07b547"), looks := false }, kinds := [], alts := [], laidByText := true, laidKinds := [.data, .pinned], laidTests := true, laidLooks := .later }
def RepoRoomCardSaid : Prop := Claim7.holds Tryd.pinned (.plain (OpenSpec.ofChange repoRoomSpec)) repoRoomCard

/-- THE TIED CARD OF 'cortegelaw10.RepoNone'. -/
def repoNoneCard : Claim7 := { stood := { row := repoNoneRow, standIns := [], harness := (true, "b8549941136c75f2c554eaf403c37bf8f3fce9d6a3edd6b504917a752e07b547"), looks := false }, kinds := [], alts := [], laidByText := true, laidKinds := [.data, .pinned], laidTests := true, laidLooks := .later }
def RepoNoneCardSaid : Prop := Claim7.holds Tryd.pinned (.plain (OpenSpec.ofChange repoNoneSpec)) repoNoneCard

/-- THE TIED CARD OF 'cortegelaw10.RepoScript'. -/
def repoScriptCard : Claim7 := { stood := { row := repoScriptRow, standIns := [], harness := (true, "b8549941136c75f2c554eaf403c37bf8f3fce9d6a3edd6b504917a752e07b547"), looks := false }, kinds := [], alts := [], laidByText := true, laidKinds := [.data, .pinned], laidTests := true, laidLooks := .later }
def RepoScriptCardSaid : Prop := Claim7.holds Tryd.pinned (.plain (OpenSpec.ofChange repoScriptSpec)) repoScriptCard

/-- THE TIED CARD OF 'cortegelaw11.DagTells'. -/
def dagTellsCard : Claim7 := { stood := { row := dagTellsRow, standIns := [], harness := (true, "b8549941136c75f2c554eaf403c37bf8f3fce9d6a3edd6b504917a752e07b547"), looks := false }, kinds := [], alts := [], laidByText := true, laidKinds := [.data, .pinned], laidTests := true, laidLooks := .later }
def DagTellsCardSaid : Prop := Claim7.holds Tryd.pinned (.plain (OpenSpec.ofChange dagTellsSpec)) dagTellsCard

/-- THE TIED CARD OF 'cortegelaw11.DagOrder'. -/
def dagOrderCard : Claim7 := { stood := { row := dagOrderRow, standIns := [], harness := (true, "b8549941136c75f2c554eaf403c37bf8f3fce9d6a3edd6b504917a752e07b547"), looks := false }, kinds := [], alts := [], laidByText := true, laidKinds := [.data, .pinned], laidTests := true, laidLooks := .later }
def DagOrderCardSaid : Prop := Claim7.holds Tryd.pinned (.plain (OpenSpec.ofChange dagOrderSpec)) dagOrderCard

/-- THE TIED CARD OF 'cortegelaw11.DagNone'. -/
def dagNoneCard : Claim7 := { stood := { row := dagNoneRow, standIns := [], harness := (true, "b8549941136c75f2c554eaf403c37bf8f3fce9d6a3edd6b504917a752e07b547"), looks := false }, kinds := [], alts := [], laidByText := true, laidKinds := [.data, .pinned], laidTests := true, laidLooks := .later }
def DagNoneCardSaid : Prop := Claim7.holds Tryd.pinned (.plain (OpenSpec.ofChange dagNoneSpec)) dagNoneCard

/-- THE TIED CARD OF 'cortegelaw11.DagDepths'. -/
def dagDepthsCard : Claim7 := { stood := { row := dagDepthsRow, standIns := [], harness := (true, "b8549941136c75f2c554eaf403c37bf8f3fce9d6a3edd6b504917a752e07b547"), looks := false }, kinds := [], alts := [], laidByText := true, laidKinds := [.data, .pinned], laidTests := true, laidLooks := .later }
def DagDepthsCardSaid : Prop := Claim7.holds Tryd.pinned (.plain (OpenSpec.ofChange dagDepthsSpec)) dagDepthsCard

/-- THE TIED CARD OF 'cortegelaw12.BaseTells'. -/
def baseTellsCard : Claim7 := { stood := { row := baseTellsRow, standIns := [], harness := (true, "b8549941136c75f2c554eaf403c37bf8f3fce9d6a3edd6b504917a752e07b547"), looks := false }, kinds := [], alts := [], laidByText := true, laidKinds := [.data, .pinned], laidTests := true, laidLooks := .later }
def BaseTellsCardSaid : Prop := Claim7.holds Tryd.pinned (.plain (OpenSpec.ofChange baseTellsSpec)) baseTellsCard

/-- THE TIED CARD OF 'cortegelaw12.BaseAhead'. -/
def baseAheadCard : Claim7 := { stood := { row := baseAheadRow, standIns := [], harness := (true, "b8549941136c75f2c554eaf403c37bf8f3fce9d6a3edd6b504917a752e07b547"), looks := false }, kinds := [], alts := [], laidByText := true, laidKinds := [.data, .pinned], laidTests := true, laidLooks := .later }
def BaseAheadCardSaid : Prop := Claim7.holds Tryd.pinned (.plain (OpenSpec.ofChange baseAheadSpec)) baseAheadCard

/-- THE TIED CARD OF 'cortegelaw12.BaseLine'. -/
def baseLineCard : Claim7 := { stood := { row := baseLineRow, standIns := [], harness := (true, "b8549941136c75f2c554eaf403c37bf8f3fce9d6a3edd6b504917a752e07b547"), looks := false }, kinds := [], alts := [], laidByText := true, laidKinds := [.data, .pinned], laidTests := true, laidLooks := .later }
def BaseLineCardSaid : Prop := Claim7.holds Tryd.pinned (.plain (OpenSpec.ofChange baseLineSpec)) baseLineCard

/-- THE TIED CARD OF 'cortegelaw12.BaseBest'. -/
def baseBestCard : Claim7 := { stood := { row := baseBestRow, standIns := [], harness := (true, "b8549941136c75f2c554eaf403c37bf8f3fce9d6a3edd6b504917a752e07b547"), looks := false }, kinds := [], alts := [], laidByText := true, laidKinds := [.data, .pinned], laidTests := true, laidLooks := .later }
def BaseBestCardSaid : Prop := Claim7.holds Tryd.pinned (.plain (OpenSpec.ofChange baseBestSpec)) baseBestCard

/-- THE SECOND FORM's CARD OF 'cortegelaw10.RepoNumbers'. -/
def repoNumbersUptoCard : Claim7 := { stood := { row := repoNumbersUptoRow, standIns := [], harness := (true, "b8549941136c75f2c554eaf403c37bf8f3fce9d6a3edd6b504917a752e07b547"), looks := false }, kinds := [], alts := [], laidByText := true, laidKinds := [.data, .pinned], laidTests := true, laidLooks := .later }
def RepoNumbersUptoCardSaid : Prop := Claim7.holds Tryd.pinned (.plain (OpenSpec.upto repoNumbersSpec)) repoNumbersUptoCard

/-- THE SECOND FORM's CARD OF 'cortegelaw10.RepoRoom'. -/
def repoRoomUptoCard : Claim7 := { stood := { row := repoRoomUptoRow, standIns := [], harness := (true, "b8549941136c75f2c554eaf403c37bf8f3fce9d6a3edd6b504917a752e07b547"), looks := false }, kinds := [], alts := [], laidByText := true, laidKinds := [.data, .pinned], laidTests := true, laidLooks := .later }
def RepoRoomUptoCardSaid : Prop := Claim7.holds Tryd.pinned (.plain (OpenSpec.upto repoRoomSpec)) repoRoomUptoCard

/-- THE SECOND FORM's CARD OF 'cortegelaw10.RepoNone'. -/
def repoNoneUptoCard : Claim7 := { stood := { row := repoNoneUptoRow, standIns := [], harness := (true, "b8549941136c75f2c554eaf403c37bf8f3fce9d6a3edd6b504917a752e07b547"), looks := false }, kinds := [], alts := [], laidByText := true, laidKinds := [.data, .pinned], laidTests := true, laidLooks := .later }
def RepoNoneUptoCardSaid : Prop := Claim7.holds Tryd.pinned (.plain (OpenSpec.upto repoNoneSpec)) repoNoneUptoCard

/-- THE SECOND FORM's CARD OF 'cortegelaw10.RepoScript'. -/
def repoScriptUptoCard : Claim7 := { stood := { row := repoScriptUptoRow, standIns := [], harness := (true, "b8549941136c75f2c554eaf403c37bf8f3fce9d6a3edd6b504917a752e07b547"), looks := false }, kinds := [], alts := [], laidByText := true, laidKinds := [.data, .pinned], laidTests := true, laidLooks := .later }
def RepoScriptUptoCardSaid : Prop := Claim7.holds Tryd.pinned (.plain (OpenSpec.upto repoScriptSpec)) repoScriptUptoCard

/-- THE SECOND FORM's CARD OF 'cortegelaw11.DagTells'. -/
def dagTellsUptoCard : Claim7 := { stood := { row := dagTellsUptoRow, standIns := [], harness := (true, "b8549941136c75f2c554eaf403c37bf8f3fce9d6a3edd6b504917a752e07b547"), looks := false }, kinds := [], alts := [], laidByText := true, laidKinds := [.data, .pinned], laidTests := true, laidLooks := .later }
def DagTellsUptoCardSaid : Prop := Claim7.holds Tryd.pinned (.plain (OpenSpec.upto dagTellsSpec)) dagTellsUptoCard

/-- THE SECOND FORM's CARD OF 'cortegelaw11.DagOrder'. -/
def dagOrderUptoCard : Claim7 := { stood := { row := dagOrderUptoRow, standIns := [], harness := (true, "b8549941136c75f2c554eaf403c37bf8f3fce9d6a3edd6b504917a752e07b547"), looks := false }, kinds := [], alts := [], laidByText := true, laidKinds := [.data, .pinned], laidTests := true, laidLooks := .later }
def DagOrderUptoCardSaid : Prop := Claim7.holds Tryd.pinned (.plain (OpenSpec.upto dagOrderSpec)) dagOrderUptoCard

/-- THE SECOND FORM's CARD OF 'cortegelaw11.DagNone'. -/
def dagNoneUptoCard : Claim7 := { stood := { row := dagNoneUptoRow, standIns := [], harness := (true, "b8549941136c75f2c554eaf403c37bf8f3fce9d6a3edd6b504917a752e07b547"), looks := false }, kinds := [], alts := [], laidByText := true, laidKinds := [.data, .pinned], laidTests := true, laidLooks := .later }
def DagNoneUptoCardSaid : Prop := Claim7.holds Tryd.pinned (.plain (OpenSpec.upto dagNoneSpec)) dagNoneUptoCard

/-- THE SECOND FORM's CARD OF 'cortegelaw11.DagDepths'. -/
def dagDepthsUptoCard : Claim7 := { stood := { row := dagDepthsUptoRow, standIns := [], harness := (true, "b8549941136c75f2c554eaf403c37bf8f3fce9d6a3edd6b504917a752e07b547"), looks := false }, kinds := [], alts := [], laidByText := true, laidKinds := [.data, .pinned], laidTests := true, laidLooks := .later }
def DagDepthsUptoCardSaid : Prop := Claim7.holds Tryd.pinned (.plain (OpenSpec.upto dagDepthsSpec)) dagDepthsUptoCard

/-- THE SECOND FORM's CARD OF 'cortegelaw12.BaseTells'. -/
def baseTellsUptoCard : Claim7 := { stood := { row := baseTellsUptoRow, standIns := [], harness := (true, "b8549941136c75f2c554eaf403c37bf8f3fce9d6a3edd6b504917a752e07b547"), looks := false }, kinds := [], alts := [], laidByText := true, laidKinds := [.data, .pinned], laidTests := true, laidLooks := .later }
def BaseTellsUptoCardSaid : Prop := Claim7.holds Tryd.pinned (.plain (OpenSpec.upto baseTellsSpec)) baseTellsUptoCard

/-- THE SECOND FORM's CARD OF 'cortegelaw12.BaseAhead'. -/
def baseAheadUptoCard : Claim7 := { stood := { row := baseAheadUptoRow, standIns := [], harness := (true, "b8549941136c75f2c554eaf403c37bf8f3fce9d6a3edd6b504917a752e07b547"), looks := false }, kinds := [], alts := [], laidByText := true, laidKinds := [.data, .pinned], laidTests := true, laidLooks := .later }
def BaseAheadUptoCardSaid : Prop := Claim7.holds Tryd.pinned (.plain (OpenSpec.upto baseAheadSpec)) baseAheadUptoCard

/-- THE SECOND FORM's CARD OF 'cortegelaw12.BaseLine'. -/
def baseLineUptoCard : Claim7 := { stood := { row := baseLineUptoRow, standIns := [], harness := (true, "b8549941136c75f2c554eaf403c37bf8f3fce9d6a3edd6b504917a752e07b547"), looks := false }, kinds := [], alts := [], laidByText := true, laidKinds := [.data, .pinned], laidTests := true, laidLooks := .later }
def BaseLineUptoCardSaid : Prop := Claim7.holds Tryd.pinned (.plain (OpenSpec.upto baseLineSpec)) baseLineUptoCard

/-- THE SECOND FORM's CARD OF 'cortegelaw12.BaseBest'. -/
def baseBestUptoCard : Claim7 := { stood := { row := baseBestUptoRow, standIns := [], harness := (true, "b8549941136c75f2c554eaf403c37bf8f3fce9d6a3edd6b504917a752e07b547"), looks := false }, kinds := [], alts := [], laidByText := true, laidKinds := [.data, .pinned], laidTests := true, laidLooks := .later }
def BaseBestUptoCardSaid : Prop := Claim7.holds Tryd.pinned (.plain (OpenSpec.upto baseBestSpec)) baseBestUptoCard
end Rows
end Go.Proofs.YtnnkbicaokckbaaDoor
