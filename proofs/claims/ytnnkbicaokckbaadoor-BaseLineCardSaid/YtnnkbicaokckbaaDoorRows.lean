/-
  NARROWER THAN 'FOR EVERY INPUT', by the rows' own cells (each row's printed sentence says how): RepoNumbers: laid · RepoRoom: laid · RepoNone: laid · RepoScript: laid · DagTells: laid · DagOrder: laid · DagNone: laid · DagDepths: laid · BaseTells: laid · BaseAhead: laid · BaseLine: laid · BaseBest: laid.
  DERIVED. THE GIVEN ROWS OF THIS SEAT. 12 by the template 'for every input the law returns true; each argument reads behind the call as it read before'; 0 by the template 'total and deterministic' (their statements: YtnnkbicaokckbaaDoorTotals.lean).
  GIVEN WITH THE SEED: the statements are not yours to turn. If you find one false, say at which input.
  Laid BY PROGRAM, IN A SANDBOX (cutbox-rows.mjs): the forced cells as the released guide's own fill.sh prints them over the translation abb061cf0c8921c5… (all of the seat's roots in one cut). By AI agents, Wed Nov 11 2026. No macro, syntax, notation, axiom, sorry.
-/
import Derived.Test.YtnnkbicaokckbaaDoorChecked
import GoSem.PinnedTables
import GoSem.Claim
import GoSem.ClaimJoined
import GoSem.ClaimMapViews
import Derived.JoinedTies
import Derived.KernelRfl
namespace Go.Proofs.YtnnkbicaokckbaaDoor
/- THE CELL 'sum', in the pinned program and in every row, IS THE sha256 OF THE DUMP (.gsa) THAT YtnnkbicaokckbaaDoorProg.lean LOADS. Nothing in Lean hashes anything: it is a label: what it is worth is what the hold of that sum in a sandbox is worth. -/
noncomputable def Tryd.pinned : Pinned := { name := "ytnnkbicaokckbaadoor", sum := "abb061cf0c8921c50dc25979fa6eb70d2b7b5c3fdc75aa2193e2edaf6717ca6d", checked := Tryd.checked }
namespace Rows
def none {H : Type} : Left H := { results := [], args := [] }

/- WHAT THE LISTED PACKAGE-LEVEL VARIABLES READ AS WHEN THE CALL BEGINS. Each datum BY PROGRAM (the guide's laid-datum.mjs) off the statement by which the dump's own 'gosem.cut.vars' lays the variable. In a bare row this is a premise. The card (YtnnkbicaokckbaaDoorCards.lean) ties it to the program's text. -/
def laid_unicode_utf8_acceptRanges {H : Type} : DataW H := .agg [.agg [.lit (.int .u8 128), .lit (.int .u8 191)], .agg [.lit (.int .u8 160), .lit (.int .u8 191)], .agg [.lit (.int .u8 128), .lit (.int .u8 159)], .agg [.lit (.int .u8 144), .lit (.int .u8 191)], .agg [.lit (.int .u8 128), .lit (.int .u8 143)], .agg [.lit (.int .u8 0), .lit (.int .u8 0)], .agg [.lit (.int .u8 0), .lit (.int .u8 0)], .agg [.lit (.int .u8 0), .lit (.int .u8 0)], .agg [.lit (.int .u8 0), .lit (.int .u8 0)], .agg [.lit (.int .u8 0), .lit (.int .u8 0)], .agg [.lit (.int .u8 0), .lit (.int .u8 0)], .agg [.lit (.int .u8 0), .lit (.int .u8 0)], .agg [.lit (.int .u8 0), .lit (.int .u8 0)], .agg [.lit (.int .u8 0), .lit (.int .u8 0)], .agg [.lit (.int .u8 0), .lit (.int .u8 0)], .agg [.lit (.int .u8 0), .lit (.int .u8 0)]]
/-- One of Go's own tables, pinned by name: the form's constant. -/
def laid_unicode_utf8_first : DataW Unit := Go.Pinned.utf8First

/-- 'cortegelaw10.RepoNumbers': WHATEVER THE INPUT: true; the input reads as it did. -/
def repoNumbersSpec : ChangeSpec := { name := "repoNumbers", fn := fun _ => fun
  | [d] => { results := [.lit (.bool true)], args := [d] }
  | _ => none }
def repoNumbersRow : OpenClaim := { program := "ytnnkbicaokckbaadoor", sum := "abb061cf0c8921c50dc25979fa6eb70d2b7b5c3fdc75aa2193e2edaf6717ca6d", func := "cortege/cortegelaw10.RepoNumbers", spec := "repoNumbers", inPlace := ["internal/bytealg.CountString", "internal/bytealg.IndexByteString", "internal/bytealg.IndexString"], unfollowed := true, recurses := true, named := ["unicode/utf8.first", "unicode/utf8.acceptRanges", "internal/bytealg.MaxLen"], apart := false, laid := [("unicode/utf8.acceptRanges", laid_unicode_utf8_acceptRanges), ("unicode/utf8.first", laid_unicode_utf8_first)] }
def RepoNumbersSaid : Prop := repoNumbersRow.holds Tryd.pinned (OpenSpec.ofChange repoNumbersSpec)

/-- ITS FALSE NEIGHBOUR: 'it returns false'. Refute it at one input. -/
def repoNumbersWrong : ChangeSpec := { name := "repoNumbers", fn := fun _ => fun
  | [d] => { results := [.lit (.bool false)], args := [d] }
  | _ => none }
def RepoNumbersWrongFalsely : Prop := repoNumbersRow.holds Tryd.pinned (OpenSpec.ofChange repoNumbersWrong)

/-- 'cortegelaw10.RepoRoom': WHATEVER THE INPUT: true; the input reads as it did. -/
def repoRoomSpec : ChangeSpec := { name := "repoRoom", fn := fun _ => fun
  | [d1, d2] => { results := [.lit (.bool true)], args := [d1, d2] }
  | _ => none }
def repoRoomRow : OpenClaim := { program := "ytnnkbicaokckbaadoor", sum := "abb061cf0c8921c50dc25979fa6eb70d2b7b5c3fdc75aa2193e2edaf6717ca6d", func := "cortege/cortegelaw10.RepoRoom", spec := "repoRoom", inPlace := ["internal/bytealg.CountString", "internal/bytealg.IndexByteString", "internal/bytealg.IndexString"], unfollowed := true, recurses := true, named := ["unicode/utf8.first", "unicode/utf8.acceptRanges", "internal/bytealg.MaxLen"], apart := false, laid := [("unicode/utf8.acceptRanges", laid_unicode_utf8_acceptRanges), ("unicode/utf8.first", laid_unicode_utf8_first)] }
def RepoRoomSaid : Prop := repoRoomRow.holds Tryd.pinned (OpenSpec.ofChange repoRoomSpec)

/-- ITS FALSE NEIGHBOUR: 'it returns false'. Refute it at one input. -/
def repoRoomWrong : ChangeSpec := { name := "repoRoom", fn := fun _ => fun
  | [d1, d2] => { results := [.lit (.bool false)], args := [d1, d2] }
  | _ => none }
def RepoRoomWrongFalsely : Prop := repoRoomRow.holds Tryd.pinned (OpenSpec.ofChange repoRoomWrong)

/-- 'cortegelaw10.RepoNone': WHATEVER THE INPUT: true; the input reads as it did. -/
def repoNoneSpec : ChangeSpec := { name := "repoNone", fn := fun _ => fun
  | [d] => { results := [.lit (.bool true)], args := [d] }
  | _ => none }
def repoNoneRow : OpenClaim := { program := "ytnnkbicaokckbaadoor", sum := "abb061cf0c8921c50dc25979fa6eb70d2b7b5c3fdc75aa2193e2edaf6717ca6d", func := "cortege/cortegelaw10.RepoNone", spec := "repoNone", inPlace := ["internal/bytealg.CountString", "internal/bytealg.IndexByteString", "internal/bytealg.IndexString"], unfollowed := true, recurses := true, named := ["unicode/utf8.first", "unicode/utf8.acceptRanges", "internal/bytealg.MaxLen"], apart := false, laid := [("unicode/utf8.acceptRanges", laid_unicode_utf8_acceptRanges), ("unicode/utf8.first", laid_unicode_utf8_first)] }
def RepoNoneSaid : Prop := repoNoneRow.holds Tryd.pinned (OpenSpec.ofChange repoNoneSpec)

/-- ITS FALSE NEIGHBOUR: 'it returns false'. Refute it at one input. -/
def repoNoneWrong : ChangeSpec := { name := "repoNone", fn := fun _ => fun
  | [d] => { results := [.lit (.bool false)], args := [d] }
  | _ => none }
def RepoNoneWrongFalsely : Prop := repoNoneRow.holds Tryd.pinned (OpenSpec.ofChange repoNoneWrong)

/-- 'cortegelaw10.RepoScript': WHATEVER THE INPUT: true; the input reads as it did. -/
def repoScriptSpec : ChangeSpec := { name := "repoScript", fn := fun _ => fun
  | [d1, d2, d3, d4] => { results := [.lit (.bool true)], args := [d1, d2, d3, d4] }
  | _ => none }
def repoScriptRow : OpenClaim := { program := "ytnnkbicaokckbaadoor", sum := "abb061cf0c8921c50dc25979fa6eb70d2b7b5c3fdc75aa2193e2edaf6717ca6d", func := "cortege/cortegelaw10.RepoScript", spec := "repoScript", inPlace := ["internal/bytealg.CountString", "internal/bytealg.IndexByteString", "internal/bytealg.IndexString"], unfollowed := true, recurses := true, named := ["unicode/utf8.first", "unicode/utf8.acceptRanges", "internal/bytealg.MaxLen"], apart := false, laid := [("unicode/utf8.acceptRanges", laid_unicode_utf8_acceptRanges), ("unicode/utf8.first", laid_unicode_utf8_first)] }
def RepoScriptSaid : Prop := repoScriptRow.holds Tryd.pinned (OpenSpec.ofChange repoScriptSpec)

/-- ITS FALSE NEIGHBOUR: 'it returns false'. Refute it at one input. -/
def repoScriptWrong : ChangeSpec := { name := "repoScript", fn := fun _ => fun
  | [d1, d2, d3, d4] => { results := [.lit (.bool false)], args := [d1, d2, d3, d4] }
  | _ => none }
def RepoScriptWrongFalsely : Prop := repoScriptRow.holds Tryd.pinned (OpenSpec.ofChange repoScriptWrong)

/-- 'cortegelaw11.DagTells': WHATEVER THE INPUT: true; the input reads as it did. -/
def dagTellsSpec : ChangeSpec := { name := "dagTells", fn := fun _ => fun
  | [d1, d2, d3] => { results := [.lit (.bool true)], args := [d1, d2, d3] }
  | _ => none }
def dagTellsRow : OpenClaim := { program := "ytnnkbicaokckbaadoor", sum := "abb061cf0c8921c50dc25979fa6eb70d2b7b5c3fdc75aa2193e2edaf6717ca6d", func := "cortege/cortegelaw11.DagTells", spec := "dagTells", inPlace := ["internal/bytealg.CountString", "internal/bytealg.IndexByteString", "internal/bytealg.IndexString", "slices.overlaps[int]"], unfollowed := true, recurses := true, named := ["unicode/utf8.first", "unicode/utf8.acceptRanges", "internal/bytealg.MaxLen"], apart := false, laid := [("unicode/utf8.acceptRanges", laid_unicode_utf8_acceptRanges), ("unicode/utf8.first", laid_unicode_utf8_first)] }
def DagTellsSaid : Prop := dagTellsRow.holds Tryd.pinned (OpenSpec.ofChange dagTellsSpec)

/-- ITS FALSE NEIGHBOUR: 'it returns false'. Refute it at one input. -/
def dagTellsWrong : ChangeSpec := { name := "dagTells", fn := fun _ => fun
  | [d1, d2, d3] => { results := [.lit (.bool false)], args := [d1, d2, d3] }
  | _ => none }
def DagTellsWrongFalsely : Prop := dagTellsRow.holds Tryd.pinned (OpenSpec.ofChange dagTellsWrong)

/-- 'cortegelaw11.DagOrder': WHATEVER THE INPUT: true; the input reads as it did. -/
def dagOrderSpec : ChangeSpec := { name := "dagOrder", fn := fun _ => fun
  | [d1, d2, d3, d4] => { results := [.lit (.bool true)], args := [d1, d2, d3, d4] }
  | _ => none }
def dagOrderRow : OpenClaim := { program := "ytnnkbicaokckbaadoor", sum := "abb061cf0c8921c50dc25979fa6eb70d2b7b5c3fdc75aa2193e2edaf6717ca6d", func := "cortege/cortegelaw11.DagOrder", spec := "dagOrder", inPlace := ["internal/bytealg.CountString", "internal/bytealg.IndexByteString", "internal/bytealg.IndexString", "slices.overlaps[int]"], unfollowed := true, recurses := true, named := ["unicode/utf8.first", "unicode/utf8.acceptRanges", "internal/bytealg.MaxLen"], apart := false, laid := [("unicode/utf8.acceptRanges", laid_unicode_utf8_acceptRanges), ("unicode/utf8.first", laid_unicode_utf8_first)] }
def DagOrderSaid : Prop := dagOrderRow.holds Tryd.pinned (OpenSpec.ofChange dagOrderSpec)

/-- ITS FALSE NEIGHBOUR: 'it returns false'. Refute it at one input. -/
def dagOrderWrong : ChangeSpec := { name := "dagOrder", fn := fun _ => fun
  | [d1, d2, d3, d4] => { results := [.lit (.bool false)], args := [d1, d2, d3, d4] }
  | _ => none }
def DagOrderWrongFalsely : Prop := dagOrderRow.holds Tryd.pinned (OpenSpec.ofChange dagOrderWrong)

/-- 'cortegelaw11.DagNone': WHATEVER THE INPUT: true; the input reads as it did. -/
def dagNoneSpec : ChangeSpec := { name := "dagNone", fn := fun _ => fun
  | [d] => { results := [.lit (.bool true)], args := [d] }
  | _ => none }
def dagNoneRow : OpenClaim := { program := "ytnnkbicaokckbaadoor", sum := "abb061cf0c8921c50dc25979fa6eb70d2b7b5c3fdc75aa2193e2edaf6717ca6d", func := "cortege/cortegelaw11.DagNone", spec := "dagNone", inPlace := ["internal/bytealg.CountString", "internal/bytealg.IndexByteString", "internal/bytealg.IndexString", "slices.overlaps[int]"], unfollowed := true, recurses := true, named := ["unicode/utf8.first", "unicode/utf8.acceptRanges", "internal/bytealg.MaxLen"], apart := false, laid := [("unicode/utf8.acceptRanges", laid_unicode_utf8_acceptRanges), ("unicode/utf8.first", laid_unicode_utf8_first)] }
def DagNoneSaid : Prop := dagNoneRow.holds Tryd.pinned (OpenSpec.ofChange dagNoneSpec)

/-- ITS FALSE NEIGHBOUR: 'it returns false'. Refute it at one input. -/
def dagNoneWrong : ChangeSpec := { name := "dagNone", fn := fun _ => fun
  | [d] => { results := [.lit (.bool false)], args := [d] }
  | _ => none }
def DagNoneWrongFalsely : Prop := dagNoneRow.holds Tryd.pinned (OpenSpec.ofChange dagNoneWrong)

/-- 'cortegelaw11.DagDepths': WHATEVER THE INPUT: true; the input reads as it did. -/
def dagDepthsSpec : ChangeSpec := { name := "dagDepths", fn := fun _ => fun
  | [d1, d2] => { results := [.lit (.bool true)], args := [d1, d2] }
  | _ => none }
def dagDepthsRow : OpenClaim := { program := "ytnnkbicaokckbaadoor", sum := "abb061cf0c8921c50dc25979fa6eb70d2b7b5c3fdc75aa2193e2edaf6717ca6d", func := "cortege/cortegelaw11.DagDepths", spec := "dagDepths", inPlace := ["internal/bytealg.CountString", "internal/bytealg.IndexByteString", "internal/bytealg.IndexString", "slices.overlaps[int]"], unfollowed := true, recurses := true, named := ["unicode/utf8.first", "unicode/utf8.acceptRanges", "internal/bytealg.MaxLen"], apart := false, laid := [("unicode/utf8.acceptRanges", laid_unicode_utf8_acceptRanges), ("unicode/utf8.first", laid_unicode_utf8_first)] }
def DagDepthsSaid : Prop := dagDepthsRow.holds Tryd.pinned (OpenSpec.ofChange dagDepthsSpec)

/-- ITS FALSE NEIGHBOUR: 'it returns false'. Refute it at one input. -/
def dagDepthsWrong : ChangeSpec := { name := "dagDepths", fn := fun _ => fun
  | [d1, d2] => { results := [.lit (.bool false)], args := [d1, d2] }
  | _ => none }
def DagDepthsWrongFalsely : Prop := dagDepthsRow.holds Tryd.pinned (OpenSpec.ofChange dagDepthsWrong)

/-- 'cortegelaw12.BaseTells': WHATEVER THE INPUT: true; the input reads as it did. -/
def baseTellsSpec : ChangeSpec := { name := "baseTells", fn := fun _ => fun
  | [d1, d2, d3] => { results := [.lit (.bool true)], args := [d1, d2, d3] }
  | _ => none }
def baseTellsRow : OpenClaim := { program := "ytnnkbicaokckbaadoor", sum := "abb061cf0c8921c50dc25979fa6eb70d2b7b5c3fdc75aa2193e2edaf6717ca6d", func := "cortege/cortegelaw12.BaseTells", spec := "baseTells", inPlace := ["internal/bytealg.CountString", "internal/bytealg.IndexByteString", "internal/bytealg.IndexString", "slices.overlaps[int]"], unfollowed := true, recurses := true, named := ["unicode/utf8.first", "unicode/utf8.acceptRanges", "internal/bytealg.MaxLen"], apart := false, laid := [("unicode/utf8.acceptRanges", laid_unicode_utf8_acceptRanges), ("unicode/utf8.first", laid_unicode_utf8_first)] }
def BaseTellsSaid : Prop := baseTellsRow.holds Tryd.pinned (OpenSpec.ofChange baseTellsSpec)

/-- ITS FALSE NEIGHBOUR: 'it returns false'. Refute it at one input. -/
def baseTellsWrong : ChangeSpec := { name := "baseTells", fn := fun _ => fun
  | [d1, d2, d3] => { results := [.lit (.bool false)], args := [d1, d2, d3] }
  | _ => none }
def BaseTellsWrongFalsely : Prop := baseTellsRow.holds Tryd.pinned (OpenSpec.ofChange baseTellsWrong)

/-- 'cortegelaw12.BaseAhead': WHATEVER THE INPUT: true; the input reads as it did. -/
def baseAheadSpec : ChangeSpec := { name := "baseAhead", fn := fun _ => fun
  | [d1, d2, d3] => { results := [.lit (.bool true)], args := [d1, d2, d3] }
  | _ => none }
def baseAheadRow : OpenClaim := { program := "ytnnkbicaokckbaadoor", sum := "abb061cf0c8921c50dc25979fa6eb70d2b7b5c3fdc75aa2193e2edaf6717ca6d", func := "cortege/cortegelaw12.BaseAhead", spec := "baseAhead", inPlace := ["internal/bytealg.CountString", "internal/bytealg.IndexByteString", "internal/bytealg.IndexString", "slices.overlaps[int]"], unfollowed := true, recurses := true, named := ["unicode/utf8.first", "unicode/utf8.acceptRanges", "internal/bytealg.MaxLen"], apart := false, laid := [("unicode/utf8.acceptRanges", laid_unicode_utf8_acceptRanges), ("unicode/utf8.first", laid_unicode_utf8_first)] }
def BaseAheadSaid : Prop := baseAheadRow.holds Tryd.pinned (OpenSpec.ofChange baseAheadSpec)

/-- ITS FALSE NEIGHBOUR: 'it returns false'. Refute it at one input. -/
def baseAheadWrong : ChangeSpec := { name := "baseAhead", fn := fun _ => fun
  | [d1, d2, d3] => { results := [.lit (.bool false)], args := [d1, d2, d3] }
  | _ => none }
def BaseAheadWrongFalsely : Prop := baseAheadRow.holds Tryd.pinned (OpenSpec.ofChange baseAheadWrong)

/-- 'cortegelaw12.BaseLine': WHATEVER THE INPUT: true; the input reads as it did. -/
def baseLineSpec : ChangeSpec := { name := "baseLine", fn := fun _ => fun
  | [d1, d2, d3, d4, d5] => { results := [.lit (.bool true)], args := [d1, d2, d3, d4, d5] }
  | _ => none }
def baseLineRow : OpenClaim := { program := "ytnnkbicaokckbaadoor", sum := "abb061cf0c8921c50dc25979fa6eb70d2b7b5c3fdc75aa2193e2edaf6717ca6d", func := "cortege/cortegelaw12.BaseLine", spec := "baseLine", inPlace := ["internal/bytealg.CountString", "internal/bytealg.IndexByteString", "internal/bytealg.IndexString", "slices.overlaps[int]"], unfollowed := true, recurses := true, named := ["unicode/utf8.first", "unicode/utf8.acceptRanges", "internal/bytealg.MaxLen"], apart := false, laid := [("unicode/utf8.acceptRanges", laid_unicode_utf8_acceptRanges), ("unicode/utf8.first", laid_unicode_utf8_first)] }
def BaseLineSaid : Prop := baseLineRow.holds Tryd.pinned (OpenSpec.ofChange baseLineSpec)

/-- ITS FALSE NEIGHBOUR: 'it returns false'. Refute it at one input. -/
def baseLineWrong : ChangeSpec := { name := "baseLine", fn := fun _ => fun
  | [d1, d2, d3, d4, d5] => { results := [.lit (.bool false)], args := [d1, d2, d3, d4, d5] }
  | _ => none }
def BaseLineWrongFalsely : Prop := baseLineRow.holds Tryd.pinned (OpenSpec.ofChange baseLineWrong)

/-- 'cortegelaw12.BaseBest': WHATEVER THE INPUT: true; the input reads as it did. -/
def baseBestSpec : ChangeSpec := { name := "baseBest", fn := fun _ => fun
  | [d1, d2, d3] => { results := [.lit (.bool true)], args := [d1, d2, d3] }
  | _ => none }
def baseBestRow : OpenClaim := { program := "ytnnkbicaokckbaadoor", sum := "abb061cf0c8921c50dc25979fa6eb70d2b7b5c3fdc75aa2193e2edaf6717ca6d", func := "cortege/cortegelaw12.BaseBest", spec := "baseBest", inPlace := ["internal/bytealg.CountString", "internal/bytealg.IndexByteString", "internal/bytealg.IndexString", "slices.overlaps[int]"], unfollowed := true, recurses := true, named := ["unicode/utf8.first", "unicode/utf8.acceptRanges", "internal/bytealg.MaxLen"], apart := false, laid := [("unicode/utf8.acceptRanges", laid_unicode_utf8_acceptRanges), ("unicode/utf8.first", laid_unicode_utf8_first)] }
def BaseBestSaid : Prop := baseBestRow.holds Tryd.pinned (OpenSpec.ofChange baseBestSpec)

/-- ITS FALSE NEIGHBOUR: 'it returns false'. Refute it at one input. -/
def baseBestWrong : ChangeSpec := { name := "baseBest", fn := fun _ => fun
  | [d1, d2, d3] => { results := [.lit (.bool false)], args := [d1, d2, d3] }
  | _ => none }
def BaseBestWrongFalsely : Prop := baseBestRow.holds Tryd.pinned (OpenSpec.ofChange baseBestWrong)

/- THE SECOND FORM. 'bulk': how many values and letters a reading holds, each counted each time it is reached (what is shared counts as often as it is met; a slice's spare places count too). A statement '..UptoSaid' is the law's where the arguments, and the package variables that the reading takes, are together of bulk at most 1048576: NARROWER than '..Said'. Prove '..Said' where nothing that the law and all that it calls make is longer than what came in: it says more and counts as full. Else prove '..UptoSaid'. A law counts once. -/
mutual
def uptoBulk {H : Type} : DataW H → Nat
  | .lit (.string bytes) => bytes.length + 1
  | .lit _ => 1
  | .nil => 1
  | .ptr d => uptoBulk d + 1
  | .slice elems spare => uptoBulkAll elems + uptoBulkAll spare + 1
  | .agg parts => uptoBulkAll parts + 1
  | .iface _ d => uptoBulk d + 1
  | .map entries => uptoBulkEntries entries + 1
  | .held _ => 1
def uptoBulkAll {H : Type} : List (DataW H) → Nat
  | [] => 0
  | d :: r => uptoBulk d + uptoBulkAll r
def uptoBulkEntries {H : Type} : List (Lit × DataW H) → Nat
  | [] => 0
  | x :: r => uptoBulkEntry x + uptoBulkEntries r
def uptoBulkEntry {H : Type} : Lit × DataW H → Nat
  | (.string bytes, d) => bytes.length + uptoBulk d + 1
  | (_, d) => uptoBulk d + 1
 end
def uptoSmall : (H : Type) → List (DataW H) → Bool := fun _ ds => decide (uptoBulkAll ds ≤ 1048576)
def OpenSpec.upto (s : _root_.Go.ChangeSpec) : _root_.Go.OpenSpec := { _root_.Go.OpenSpec.ofChange s with cond := some uptoSmall }

/-- 'cortegelaw10.RepoNumbers', WHERE WHAT IT READS IS OF BULK AT MOST 1048576: true; the input reads as it did. -/
def repoNumbersUptoRow : OpenClaim := { program := "ytnnkbicaokckbaadoor", sum := "abb061cf0c8921c50dc25979fa6eb70d2b7b5c3fdc75aa2193e2edaf6717ca6d", func := "cortege/cortegelaw10.RepoNumbers", spec := "repoNumbers", inPlace := ["internal/bytealg.CountString", "internal/bytealg.IndexByteString", "internal/bytealg.IndexString"], unfollowed := true, recurses := true, named := ["unicode/utf8.first", "unicode/utf8.acceptRanges", "internal/bytealg.MaxLen"], apart := false, laid := [("unicode/utf8.acceptRanges", laid_unicode_utf8_acceptRanges), ("unicode/utf8.first", laid_unicode_utf8_first)], narrowed := true }
def RepoNumbersUptoSaid : Prop := repoNumbersUptoRow.holds Tryd.pinned (OpenSpec.upto repoNumbersSpec)

/-- 'cortegelaw10.RepoRoom', WHERE WHAT IT READS IS OF BULK AT MOST 1048576: true; the input reads as it did. -/
def repoRoomUptoRow : OpenClaim := { program := "ytnnkbicaokckbaadoor", sum := "abb061cf0c8921c50dc25979fa6eb70d2b7b5c3fdc75aa2193e2edaf6717ca6d", func := "cortege/cortegelaw10.RepoRoom", spec := "repoRoom", inPlace := ["internal/bytealg.CountString", "internal/bytealg.IndexByteString", "internal/bytealg.IndexString"], unfollowed := true, recurses := true, named := ["unicode/utf8.first", "unicode/utf8.acceptRanges", "internal/bytealg.MaxLen"], apart := false, laid := [("unicode/utf8.acceptRanges", laid_unicode_utf8_acceptRanges), ("unicode/utf8.first", laid_unicode_utf8_first)], narrowed := true }
def RepoRoomUptoSaid : Prop := repoRoomUptoRow.holds Tryd.pinned (OpenSpec.upto repoRoomSpec)

/-- 'cortegelaw10.RepoNone', WHERE WHAT IT READS IS OF BULK AT MOST 1048576: true; the input reads as it did. -/
def repoNoneUptoRow : OpenClaim := { program := "ytnnkbicaokckbaadoor", sum := "abb061cf0c8921c50dc25979fa6eb70d2b7b5c3fdc75aa2193e2edaf6717ca6d", func := "cortege/cortegelaw10.RepoNone", spec := "repoNone", inPlace := ["internal/bytealg.CountString", "internal/bytealg.IndexByteString", "internal/bytealg.IndexString"], unfollowed := true, recurses := true, named := ["unicode/utf8.first", "unicode/utf8.acceptRanges", "internal/bytealg.MaxLen"], apart := false, laid := [("unicode/utf8.acceptRanges", laid_unicode_utf8_acceptRanges), ("unicode/utf8.first", laid_unicode_utf8_first)], narrowed := true }
def RepoNoneUptoSaid : Prop := repoNoneUptoRow.holds Tryd.pinned (OpenSpec.upto repoNoneSpec)

/-- 'cortegelaw10.RepoScript', WHERE WHAT IT READS IS OF BULK AT MOST 1048576: true; the input reads as it did. -/
def repoScriptUptoRow : OpenClaim := { program := "ytnnkbicaokckbaadoor", sum := "abb061cf0c8921c50dc25979fa6eb70d2b7b5c3fdc75aa2193e2edaf6717ca6d", func := "cortege/cortegelaw10.RepoScript", spec := "repoScript", inPlace := ["internal/bytealg.CountString", "internal/bytealg.IndexByteString", "internal/bytealg.IndexString"], unfollowed := true, recurses := true, named := ["unicode/utf8.first", "unicode/utf8.acceptRanges", "internal/bytealg.MaxLen"], apart := false, laid := [("unicode/utf8.acceptRanges", laid_unicode_utf8_acceptRanges), ("unicode/utf8.first", laid_unicode_utf8_first)], narrowed := true }
def RepoScriptUptoSaid : Prop := repoScriptUptoRow.holds Tryd.pinned (OpenSpec.upto repoScriptSpec)

/-- 'cortegelaw11.DagTells', WHERE WHAT IT READS IS OF BULK AT MOST 1048576: true; the input reads as it did. -/
def dagTellsUptoRow : OpenClaim := { program := "ytnnkbicaokckbaadoor", sum := "abb061cf0c8921c50dc25979fa6eb70d2b7b5c3fdc75aa2193e2edaf6717ca6d", func := "cortege/cortegelaw11.DagTells", spec := "dagTells", inPlace := ["internal/bytealg.CountString", "internal/bytealg.IndexByteString", "internal/bytealg.IndexString", "slices.overlaps[int]"], unfollowed := true, recurses := true, named := ["unicode/utf8.first", "unicode/utf8.acceptRanges", "internal/bytealg.MaxLen"], apart := false, laid := [("unicode/utf8.acceptRanges", laid_unicode_utf8_acceptRanges), ("unicode/utf8.first", laid_unicode_utf8_first)], narrowed := true }
def DagTellsUptoSaid : Prop := dagTellsUptoRow.holds Tryd.pinned (OpenSpec.upto dagTellsSpec)

/-- 'cortegelaw11.DagOrder', WHERE WHAT IT READS IS OF BULK AT MOST 1048576: true; the input reads as it did. -/
def dagOrderUptoRow : OpenClaim := { program := "ytnnkbicaokckbaadoor", sum := "abb061cf0c8921c50dc25979fa6eb70d2b7b5c3fdc75aa2193e2edaf6717ca6d", func := "cortege/cortegelaw11.DagOrder", spec := "dagOrder", inPlace := ["internal/bytealg.CountString", "internal/bytealg.IndexByteString", "internal/bytealg.IndexString", "slices.overlaps[int]"], unfollowed := true, recurses := true, named := ["unicode/utf8.first", "unicode/utf8.acceptRanges", "internal/bytealg.MaxLen"], apart := false, laid := [("unicode/utf8.acceptRanges", laid_unicode_utf8_acceptRanges), ("unicode/utf8.first", laid_unicode_utf8_first)], narrowed := true }
def DagOrderUptoSaid : Prop := dagOrderUptoRow.holds Tryd.pinned (OpenSpec.upto dagOrderSpec)

/-- 'cortegelaw11.DagNone', WHERE WHAT IT READS IS OF BULK AT MOST 1048576: true; the input reads as it did. -/
def dagNoneUptoRow : OpenClaim := { program := "ytnnkbicaokckbaadoor", sum := "abb061cf0c8921c50dc25979fa6eb70d2b7b5c3fdc75aa2193e2edaf6717ca6d", func := "cortege/cortegelaw11.DagNone", spec := "dagNone", inPlace := ["internal/bytealg.CountString", "internal/bytealg.IndexByteString", "internal/bytealg.IndexString", "slices.overlaps[int]"], unfollowed := true, recurses := true, named := ["unicode/utf8.first", "unicode/utf8.acceptRanges", "internal/bytealg.MaxLen"], apart := false, laid := [("unicode/utf8.acceptRanges", laid_unicode_utf8_acceptRanges), ("unicode/utf8.first", laid_unicode_utf8_first)], narrowed := true }
def DagNoneUptoSaid : Prop := dagNoneUptoRow.holds Tryd.pinned (OpenSpec.upto dagNoneSpec)

/-- 'cortegelaw11.DagDepths', WHERE WHAT IT READS IS OF BULK AT MOST 1048576: true; the input reads as it did. -/
def dagDepthsUptoRow : OpenClaim := { program := "ytnnkbicaokckbaadoor", sum := "abb061cf0c8921c50dc25979fa6eb70d2b7b5c3fdc75aa2193e2edaf6717ca6d", func := "cortege/cortegelaw11.DagDepths", spec := "dagDepths", inPlace := ["internal/bytealg.CountString", "internal/bytealg.IndexByteString", "internal/bytealg.IndexString", "slices.overlaps[int]"], unfollowed := true, recurses := true, named := ["unicode/utf8.first", "unicode/utf8.acceptRanges", "internal/bytealg.MaxLen"], apart := false, laid := [("unicode/utf8.acceptRanges", laid_unicode_utf8_acceptRanges), ("unicode/utf8.first", laid_unicode_utf8_first)], narrowed := true }
def DagDepthsUptoSaid : Prop := dagDepthsUptoRow.holds Tryd.pinned (OpenSpec.upto dagDepthsSpec)

/-- 'cortegelaw12.BaseTells', WHERE WHAT IT READS IS OF BULK AT MOST 1048576: true; the input reads as it did. -/
def baseTellsUptoRow : OpenClaim := { program := "ytnnkbicaokckbaadoor", sum := "abb061cf0c8921c50dc25979fa6eb70d2b7b5c3fdc75aa2193e2edaf6717ca6d", func := "cortege/cortegelaw12.BaseTells", spec := "baseTells", inPlace := ["internal/bytealg.CountString", "internal/bytealg.IndexByteString", "internal/bytealg.IndexString", "slices.overlaps[int]"], unfollowed := true, recurses := true, named := ["unicode/utf8.first", "unicode/utf8.acceptRanges", "internal/bytealg.MaxLen"], apart := false, laid := [("unicode/utf8.acceptRanges", laid_unicode_utf8_acceptRanges), ("unicode/utf8.first", laid_unicode_utf8_first)], narrowed := true }
def BaseTellsUptoSaid : Prop := baseTellsUptoRow.holds Tryd.pinned (OpenSpec.upto baseTellsSpec)

/-- 'cortegelaw12.BaseAhead', WHERE WHAT IT READS IS OF BULK AT MOST 1048576: true; the input reads as it did. -/
def baseAheadUptoRow : OpenClaim := { program := "ytnnkbicaokckbaadoor", sum := "abb061cf0c8921c50dc25979fa6eb70d2b7b5c3fdc75aa2193e2edaf6717ca6d", func := "cortege/cortegelaw12.BaseAhead", spec := "baseAhead", inPlace := ["internal/bytealg.CountString", "internal/bytealg.IndexByteString", "internal/bytealg.IndexString", "slices.overlaps[int]"], unfollowed := true, recurses := true, named := ["unicode/utf8.first", "unicode/utf8.acceptRanges", "internal/bytealg.MaxLen"], apart := false, laid := [("unicode/utf8.acceptRanges", laid_unicode_utf8_acceptRanges), ("unicode/utf8.first", laid_unicode_utf8_first)], narrowed := true }
def BaseAheadUptoSaid : Prop := baseAheadUptoRow.holds Tryd.pinned (OpenSpec.upto baseAheadSpec)

/-- 'cortegelaw12.BaseLine', WHERE WHAT IT READS IS OF BULK AT MOST 1048576: true; the input reads as it did. -/
def baseLineUptoRow : OpenClaim := { program := "ytnnkbicaokckbaadoor", sum := "abb061cf0c8921c50dc25979fa6eb70d2b7b5c3fdc75aa2193e2edaf6717ca6d", func := "cortege/cortegelaw12.BaseLine", spec := "baseLine", inPlace := ["internal/bytealg.CountString", "internal/bytealg.IndexByteString", "internal/bytealg.IndexString", "slices.overlaps[int]"], unfollowed := true, recurses := true, named := ["unicode/utf8.first", "unicode/utf8.acceptRanges", "internal/bytealg.MaxLen"], apart := false, laid := [("unicode/utf8.acceptRanges", laid_unicode_utf8_acceptRanges), ("unicode/utf8.first", laid_unicode_utf8_first)], narrowed := true }
def BaseLineUptoSaid : Prop := baseLineUptoRow.holds Tryd.pinned (OpenSpec.upto baseLineSpec)

/-- 'cortegelaw12.BaseBest', WHERE WHAT IT READS IS OF BULK AT MOST 1048576: true; the input reads as it did. -/
def baseBestUptoRow : OpenClaim := { program := "ytnnkbicaokckbaadoor", sum := "abb061cf0c8921c50dc25979fa6eb70d2b7b5c3fdc75aa2193e2edaf6717ca6d", func := "cortege/cortegelaw12.BaseBest", spec := "baseBest", inPlace := ["internal/bytealg.CountString", "internal/bytealg.IndexByteString", "internal/bytealg.IndexString", "slices.overlaps[int]"], unfollowed := true, recurses := true, named := ["unicode/utf8.first", "unicode/utf8.acceptRanges", "internal/bytealg.MaxLen"], apart := false, laid := [("unicode/utf8.acceptRanges", laid_unicode_utf8_acceptRanges), ("unicode/utf8.first", laid_unicode_utf8_first)], narrowed := true }
def BaseBestUptoSaid : Prop := baseBestUptoRow.holds Tryd.pinned (OpenSpec.upto baseBestSpec)

end Rows
end Go.Proofs.YtnnkbicaokckbaaDoor
