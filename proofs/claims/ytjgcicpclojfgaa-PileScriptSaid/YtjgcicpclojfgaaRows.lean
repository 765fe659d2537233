/-
  No cell of these rows narrows 'for every input' (looked for: loops, veiled, ifaces, maps, wideKeys, modest, calm, conditions, laid).
  DERIVED. THE GIVEN ROWS OF THIS SEAT. 9 by the template 'for every input the law returns true; each argument reads behind the call as it read before'; 0 by the template 'total and deterministic' (their statements: YtjgcicpclojfgaaTotals.lean).
  GIVEN WITH THE SEED: the statements are not yours to turn. If you find one false, say at which input.
  Laid BY PROGRAM, IN A SANDBOX (cutbox-rows.mjs): the forced cells as the released guide's own fill.sh prints them over the translation d26ca8fa4756e3f1… (all of the seat's roots in one cut). By AI agents, Wed Nov 11 2026. No macro, syntax, notation, axiom, sorry.
-/
import Derived.Test.YtjgcicpclojfgaaChecked
import GoSem.Claim
import GoSem.ClaimJoined
import GoSem.ClaimMapViews
import Derived.JoinedTies
import Derived.KernelRfl
namespace Go.Proofs.Ytjgcicpclojfgaa
/- THE CELL 'sum', in the pinned program and in every row, IS THE sha256 OF THE DUMP (.gsa) THAT YtjgcicpclojfgaaProg.lean LOADS. Nothing in Lean hashes anything: it is a label: what it is worth is what the hold of that sum in a sandbox is worth. -/
noncomputable def Try.pinned : Pinned := { name := "ytjgcicpclojfgaa", sum := "d26ca8fa4756e3f15b202a6e9234c84c267976a1ca77c3703ea02cbb32b56939", checked := Try.checked }
namespace Rows
def none {H : Type} : Left H := { results := [], args := [] }

/-- 'cortegelaw2.PileSorts': WHATEVER THE INPUT: true; the input reads as it did. -/
def pileSortsSpec : ChangeSpec := { name := "pileSorts", fn := fun _ => fun
  | [d] => { results := [.lit (.bool true)], args := [d] }
  | _ => none }
def pileSortsRow : OpenClaim := { program := "ytjgcicpclojfgaa", sum := "d26ca8fa4756e3f15b202a6e9234c84c267976a1ca77c3703ea02cbb32b56939", func := "cortege/cortegelaw2.PileSorts", spec := "pileSorts", inPlace := ["slices.overlaps[int]"], unfollowed := true, recurses := true, apart := false }
def PileSortsSaid : Prop := pileSortsRow.holds Try.pinned (OpenSpec.ofChange pileSortsSpec)

/-- ITS FALSE NEIGHBOUR: 'it returns false'. Refute it at one input. -/
def pileSortsWrong : ChangeSpec := { name := "pileSorts", fn := fun _ => fun
  | [d] => { results := [.lit (.bool false)], args := [d] }
  | _ => none }
def PileSortsWrongFalsely : Prop := pileSortsRow.holds Try.pinned (OpenSpec.ofChange pileSortsWrong)

/-- 'cortegelaw2.PileLeft': WHATEVER THE INPUT: true; the input reads as it did. -/
def pileLeftSpec : ChangeSpec := { name := "pileLeft", fn := fun _ => fun
  | [d1, d2] => { results := [.lit (.bool true)], args := [d1, d2] }
  | _ => none }
def pileLeftRow : OpenClaim := { program := "ytjgcicpclojfgaa", sum := "d26ca8fa4756e3f15b202a6e9234c84c267976a1ca77c3703ea02cbb32b56939", func := "cortege/cortegelaw2.PileLeft", spec := "pileLeft", inPlace := ["slices.overlaps[int]"], unfollowed := true, recurses := true, apart := false }
def PileLeftSaid : Prop := pileLeftRow.holds Try.pinned (OpenSpec.ofChange pileLeftSpec)

/-- ITS FALSE NEIGHBOUR: 'it returns false'. Refute it at one input. -/
def pileLeftWrong : ChangeSpec := { name := "pileLeft", fn := fun _ => fun
  | [d1, d2] => { results := [.lit (.bool false)], args := [d1, d2] }
  | _ => none }
def PileLeftWrongFalsely : Prop := pileLeftRow.holds Try.pinned (OpenSpec.ofChange pileLeftWrong)

/-- 'cortegelaw2.PileScript': WHATEVER THE INPUT: true; the input reads as it did. -/
def pileScriptSpec : ChangeSpec := { name := "pileScript", fn := fun _ => fun
  | [d] => { results := [.lit (.bool true)], args := [d] }
  | _ => none }
def pileScriptRow : OpenClaim := { program := "ytjgcicpclojfgaa", sum := "d26ca8fa4756e3f15b202a6e9234c84c267976a1ca77c3703ea02cbb32b56939", func := "cortege/cortegelaw2.PileScript", spec := "pileScript", inPlace := ["slices.overlaps[int]", "slices.overlaps[cortege/cortegelaw2.Thing]"], unfollowed := true, recurses := true, apart := false }
def PileScriptSaid : Prop := pileScriptRow.holds Try.pinned (OpenSpec.ofChange pileScriptSpec)

/-- ITS FALSE NEIGHBOUR: 'it returns false'. Refute it at one input. -/
def pileScriptWrong : ChangeSpec := { name := "pileScript", fn := fun _ => fun
  | [d] => { results := [.lit (.bool false)], args := [d] }
  | _ => none }
def PileScriptWrongFalsely : Prop := pileScriptRow.holds Try.pinned (OpenSpec.ofChange pileScriptWrong)

/-- 'cortegelaw2.PileNone': WHATEVER THE INPUT: true; the input reads as it did. -/
def pileNoneSpec : ChangeSpec := { name := "pileNone", fn := fun _ => fun
  | [d] => { results := [.lit (.bool true)], args := [d] }
  | _ => none }
def pileNoneRow : OpenClaim := { program := "ytjgcicpclojfgaa", sum := "d26ca8fa4756e3f15b202a6e9234c84c267976a1ca77c3703ea02cbb32b56939", func := "cortege/cortegelaw2.PileNone", spec := "pileNone", inPlace := ["slices.overlaps[int]"], unfollowed := true, recurses := true, apart := false }
def PileNoneSaid : Prop := pileNoneRow.holds Try.pinned (OpenSpec.ofChange pileNoneSpec)

/-- ITS FALSE NEIGHBOUR: 'it returns false'. Refute it at one input. -/
def pileNoneWrong : ChangeSpec := { name := "pileNone", fn := fun _ => fun
  | [d] => { results := [.lit (.bool false)], args := [d] }
  | _ => none }
def PileNoneWrongFalsely : Prop := pileNoneRow.holds Try.pinned (OpenSpec.ofChange pileNoneWrong)

/-- 'cortegelaw2.PileTurned': WHATEVER THE INPUT: true; the input reads as it did. -/
def pileTurnedSpec : ChangeSpec := { name := "pileTurned", fn := fun _ => fun
  | [d1, d2] => { results := [.lit (.bool true)], args := [d1, d2] }
  | _ => none }
def pileTurnedRow : OpenClaim := { program := "ytjgcicpclojfgaa", sum := "d26ca8fa4756e3f15b202a6e9234c84c267976a1ca77c3703ea02cbb32b56939", func := "cortege/cortegelaw2.PileTurned", spec := "pileTurned", inPlace := ["slices.overlaps[int]"], unfollowed := true, recurses := true, apart := false }
def PileTurnedSaid : Prop := pileTurnedRow.holds Try.pinned (OpenSpec.ofChange pileTurnedSpec)

/-- ITS FALSE NEIGHBOUR: 'it returns false'. Refute it at one input. -/
def pileTurnedWrong : ChangeSpec := { name := "pileTurned", fn := fun _ => fun
  | [d1, d2] => { results := [.lit (.bool false)], args := [d1, d2] }
  | _ => none }
def PileTurnedWrongFalsely : Prop := pileTurnedRow.holds Try.pinned (OpenSpec.ofChange pileTurnedWrong)

/-- 'cortegelaw20.LaneOrder': WHATEVER THE INPUT: true; the input reads as it did. -/
def laneOrderSpec : ChangeSpec := { name := "laneOrder", fn := fun _ => fun
  | [d1, d2, d3] => { results := [.lit (.bool true)], args := [d1, d2, d3] }
  | _ => none }
def laneOrderRow : OpenClaim := { program := "ytjgcicpclojfgaa", sum := "d26ca8fa4756e3f15b202a6e9234c84c267976a1ca77c3703ea02cbb32b56939", func := "cortege/cortegelaw20.LaneOrder", spec := "laneOrder", inPlace := ["slices.overlaps[cortege/api.Entry]"], unfollowed := true, recurses := true, apart := false }
def LaneOrderSaid : Prop := laneOrderRow.holds Try.pinned (OpenSpec.ofChange laneOrderSpec)

/-- ITS FALSE NEIGHBOUR: 'it returns false'. Refute it at one input. -/
def laneOrderWrong : ChangeSpec := { name := "laneOrder", fn := fun _ => fun
  | [d1, d2, d3] => { results := [.lit (.bool false)], args := [d1, d2, d3] }
  | _ => none }
def LaneOrderWrongFalsely : Prop := laneOrderRow.holds Try.pinned (OpenSpec.ofChange laneOrderWrong)

/-- 'cortegelaw20.LaneRoom': WHATEVER THE INPUT: true; the input reads as it did. -/
def laneRoomSpec : ChangeSpec := { name := "laneRoom", fn := fun _ => fun
  | [d] => { results := [.lit (.bool true)], args := [d] }
  | _ => none }
def laneRoomRow : OpenClaim := { program := "ytjgcicpclojfgaa", sum := "d26ca8fa4756e3f15b202a6e9234c84c267976a1ca77c3703ea02cbb32b56939", func := "cortege/cortegelaw20.LaneRoom", spec := "laneRoom", inPlace := ["slices.overlaps[cortege/api.Entry]"], unfollowed := true, recurses := true, apart := false }
def LaneRoomSaid : Prop := laneRoomRow.holds Try.pinned (OpenSpec.ofChange laneRoomSpec)

/-- ITS FALSE NEIGHBOUR: 'it returns false'. Refute it at one input. -/
def laneRoomWrong : ChangeSpec := { name := "laneRoom", fn := fun _ => fun
  | [d] => { results := [.lit (.bool false)], args := [d] }
  | _ => none }
def LaneRoomWrongFalsely : Prop := laneRoomRow.holds Try.pinned (OpenSpec.ofChange laneRoomWrong)

/-- 'cortegelaw20.LaneScript': WHATEVER THE INPUT: true; the input reads as it did. -/
def laneScriptSpec : ChangeSpec := { name := "laneScript", fn := fun _ => fun
  | [d1, d2, d3] => { results := [.lit (.bool true)], args := [d1, d2, d3] }
  | _ => none }
def laneScriptRow : OpenClaim := { program := "ytjgcicpclojfgaa", sum := "d26ca8fa4756e3f15b202a6e9234c84c267976a1ca77c3703ea02cbb32b56939", func := "cortege/cortegelaw20.LaneScript", spec := "laneScript", inPlace := ["slices.overlaps[cortege/api.Entry]"], unfollowed := true, recurses := true, apart := false }
def LaneScriptSaid : Prop := laneScriptRow.holds Try.pinned (OpenSpec.ofChange laneScriptSpec)

/-- ITS FALSE NEIGHBOUR: 'it returns false'. Refute it at one input. -/
def laneScriptWrong : ChangeSpec := { name := "laneScript", fn := fun _ => fun
  | [d1, d2, d3] => { results := [.lit (.bool false)], args := [d1, d2, d3] }
  | _ => none }
def LaneScriptWrongFalsely : Prop := laneScriptRow.holds Try.pinned (OpenSpec.ofChange laneScriptWrong)

/-- 'cortegelaw20.LaneNone': WHATEVER THE INPUT: true; the input reads as it did. -/
def laneNoneSpec : ChangeSpec := { name := "laneNone", fn := fun _ => fun
  | [d] => { results := [.lit (.bool true)], args := [d] }
  | _ => none }
def laneNoneRow : OpenClaim := { program := "ytjgcicpclojfgaa", sum := "d26ca8fa4756e3f15b202a6e9234c84c267976a1ca77c3703ea02cbb32b56939", func := "cortege/cortegelaw20.LaneNone", spec := "laneNone", inPlace := ["slices.overlaps[cortege/api.Entry]"], unfollowed := true, recurses := true, apart := false }
def LaneNoneSaid : Prop := laneNoneRow.holds Try.pinned (OpenSpec.ofChange laneNoneSpec)

/-- ITS FALSE NEIGHBOUR: 'it returns false'. Refute it at one input. -/
def laneNoneWrong : ChangeSpec := { name := "laneNone", fn := fun _ => fun
  | [d] => { results := [.lit (.bool false)], args := [d] }
  | _ => none }
def LaneNoneWrongFalsely : Prop := laneNoneRow.holds Try.pinned (OpenSpec.ofChange laneNoneWrong)

/- THE SECOND FORM. 'bulk': how many values and letters a reading holds, each counted each time it is reached (what is shared counts as often as it is met; a slice's spare places count too). A statement '..UptoSaid' is the law's where the arguments, and the package variables that the reading takes, are together of bulk at most 1048576: NARROWER than '..Said'. Prove '..Said' where nothing that the law and all that it calls make is longer than what came in: it says more and counts as full. Else prove '..UptoSaid'. A law counts once. -/
mutual
def uptoBulk {H : Type} : DataW H → Nat
  | .lit (.string bytes) => bytes.length + 1
  | .lit _ => 1
  | .nil => 1
  | .ptr d => uptoBulk d + 1
  | .slice elems spare => uptoBulkAll elems + uptoBulkAll spare + 1
  | .agg parts => uptoBulkAll parts + 1
  | .iface _ d => uptoBulk d + 1
  | .map entries => uptoBulkEntries entries + 1
  | .held _ => 1
def uptoBulkAll {H : Type} : List (DataW H) → Nat
  | [] => 0
  | d :: r => uptoBulk d + uptoBulkAll r
def uptoBulkEntries {H : Type} : List (Lit × DataW H) → Nat
  | [] => 0
  | x :: r => uptoBulkEntry x + uptoBulkEntries r
def uptoBulkEntry {H : Type} : Lit × DataW H → Nat
  | (.string bytes, d) => bytes.length + uptoBulk d + 1
  | (_, d) => uptoBulk d + 1
 end
def uptoSmall : (H : Type) → List (DataW H) → Bool := fun _ ds => decide (uptoBulkAll ds ≤ 1048576)
def OpenSpec.upto (s : _root_.Go.ChangeSpec) : _root_.Go.OpenSpec := { _root_.Go.OpenSpec.ofChange s with cond := some uptoSmall }

/-- 'cortegelaw2.PileSorts', WHERE WHAT IT READS IS OF BULK AT MOST 1048576: true; the input reads as it did. -/
def pileSortsUptoRow : OpenClaim := { program := "ytjgcicpclojfgaa", sum := "d26ca8fa4756e3f15b202a6e9234c84c267976a1ca77c3703ea02cbb32b56939", func := "cortege/cortegelaw2.PileSorts", spec := "pileSorts", inPlace := ["slices.overlaps[int]"], unfollowed := true, recurses := true, apart := false, narrowed := true }
def PileSortsUptoSaid : Prop := pileSortsUptoRow.holds Try.pinned (OpenSpec.upto pileSortsSpec)

/-- 'cortegelaw2.PileLeft', WHERE WHAT IT READS IS OF BULK AT MOST 1048576: true; the input reads as it did. -/
def pileLeftUptoRow : OpenClaim := { program := "ytjgcicpclojfgaa", sum := "d26ca8fa4756e3f15b202a6e9234c84c267976a1ca77c3703ea02cbb32b56939", func := "cortege/cortegelaw2.PileLeft", spec := "pileLeft", inPlace := ["slices.overlaps[int]"], unfollowed := true, recurses := true, apart := false, narrowed := true }
def PileLeftUptoSaid : Prop := pileLeftUptoRow.holds Try.pinned (OpenSpec.upto pileLeftSpec)

/-- 'cortegelaw2.PileScript', WHERE WHAT IT READS IS OF BULK AT MOST 1048576: true; the input reads as it did. -/
def pileScriptUptoRow : OpenClaim := { program := "ytjgcicpclojfgaa", sum := "d26ca8fa4756e3f15b202a6e9234c84c267976a1ca77c3703ea02cbb32b56939", func := "cortege/cortegelaw2.PileScript", spec := "pileScript", inPlace := ["slices.overlaps[int]", "slices.overlaps[cortege/cortegelaw2.Thing]"], unfollowed := true, recurses := true, apart := false, narrowed := true }
def PileScriptUptoSaid : Prop := pileScriptUptoRow.holds Try.pinned (OpenSpec.upto pileScriptSpec)

/-- 'cortegelaw2.PileNone', WHERE WHAT IT READS IS OF BULK AT MOST 1048576: true; the input reads as it did. -/
def pileNoneUptoRow : OpenClaim := { program := "ytjgcicpclojfgaa", sum := "d26ca8fa4756e3f15b202a6e9234c84c267976a1ca77c3703ea02cbb32b56939", func := "cortege/cortegelaw2.PileNone", spec := "pileNone", inPlace := ["slices.overlaps[int]"], unfollowed := true, recurses := true, apart := false, narrowed := true }
def PileNoneUptoSaid : Prop := pileNoneUptoRow.holds Try.pinned (OpenSpec.upto pileNoneSpec)

/-- 'cortegelaw2.PileTurned', WHERE WHAT IT READS IS OF BULK AT MOST 1048576: true; the input reads as it did. -/
def pileTurnedUptoRow : OpenClaim := { program := "ytjgcicpclojfgaa", sum := "d26ca8fa4756e3f15b202a6e9234c84c267976a1ca77c3703ea02cbb32b56939", func := "cortege/cortegelaw2.PileTurned", spec := "pileTurned", inPlace := ["slices.overlaps[int]"], unfollowed := true, recurses := true, apart := false, narrowed := true }
def PileTurnedUptoSaid : Prop := pileTurnedUptoRow.holds Try.pinned (OpenSpec.upto pileTurnedSpec)

/-- 'cortegelaw20.LaneOrder', WHERE WHAT IT READS IS OF BULK AT MOST 1048576: true; the input reads as it did. -/
def laneOrderUptoRow : OpenClaim := { program := "ytjgcicpclojfgaa", sum := "d26ca8fa4756e3f15b202a6e9234c84c267976a1ca77c3703ea02cbb32b56939", func := "cortege/cortegelaw20.LaneOrder", spec := "laneOrder", inPlace := ["slices.overlaps[cortege/api.Entry]"], unfollowed := true, recurses := true, apart := false, narrowed := true }
def LaneOrderUptoSaid : Prop := laneOrderUptoRow.holds Try.pinned (OpenSpec.upto laneOrderSpec)

/-- 'cortegelaw20.LaneRoom', WHERE WHAT IT READS IS OF BULK AT MOST 1048576: true; the input reads as it did. -/
def laneRoomUptoRow : OpenClaim := { program := "ytjgcicpclojfgaa", sum := "d26ca8fa4756e3f15b202a6e9234c84c267976a1ca77c3703ea02cbb32b56939", func := "cortege/cortegelaw20.LaneRoom", spec := "laneRoom", inPlace := ["slices.overlaps[cortege/api.Entry]"], unfollowed := true, recurses := true, apart := false, narrowed := true }
def LaneRoomUptoSaid : Prop := laneRoomUptoRow.holds Try.pinned (OpenSpec.upto laneRoomSpec)

/-- 'cortegelaw20.LaneScript', WHERE WHAT IT READS IS OF BULK AT MOST 1048576: true; the input reads as it did. -/
def laneScriptUptoRow : OpenClaim := { program := "ytjgcicpclojfgaa", sum := "d26ca8fa4756e3f15b202a6e9234c84c267976a1ca77c3703ea02cbb32b56939", func := "cortege/cortegelaw20.LaneScript", spec := "laneScript", inPlace := ["slices.overlaps[cortege/api.Entry]"], unfollowed := true, recurses := true, apart := false, narrowed := true }
def LaneScriptUptoSaid : Prop := laneScriptUptoRow.holds Try.pinned (OpenSpec.upto laneScriptSpec)

/-- 'cortegelaw20.LaneNone', WHERE WHAT IT READS IS OF BULK AT MOST 1048576: true; the input reads as it did. -/
def laneNoneUptoRow : OpenClaim := { program := "ytjgcicpclojfgaa", sum := "d26ca8fa4756e3f15b202a6e9234c84c267976a1ca77c3703ea02cbb32b56939", func := "cortege/cortegelaw20.LaneNone", spec := "laneNone", inPlace := ["slices.overlaps[cortege/api.Entry]"], unfollowed := true, recurses := true, apart := false, narrowed := true }
def LaneNoneUptoSaid : Prop := laneNoneUptoRow.holds Try.pinned (OpenSpec.upto laneNoneSpec)

end Rows
end Go.Proofs.Ytjgcicpclojfgaa
