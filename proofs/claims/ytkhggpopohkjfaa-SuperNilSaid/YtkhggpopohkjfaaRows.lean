/-
  No cell of these rows narrows 'for every input' (looked for: loops, veiled, ifaces, maps, wideKeys, modest, calm, conditions, laid).
  DERIVED. THE GIVEN ROWS OF THIS SEAT. 21 by the template 'for every input the law returns true; each argument reads behind the call as it read before'; 0 by the template 'total and deterministic' (their statements: YtkhggpopohkjfaaTotals.lean).
  GIVEN WITH THE SEED: the statements are not yours to turn. If you find one false, say at which input.
  Laid BY PROGRAM, IN A SANDBOX (cutbox-rows.mjs): the forced cells as the released guide's own fill.sh prints them over the translation 4565648ee363e07b… (all of the seat's roots in one cut). By AI agents, Wed Nov 11 2026. No macro, syntax, notation, axiom, sorry.
-/
import Derived.Test.YtkhggpopohkjfaaChecked
import GoSem.Claim
import GoSem.ClaimJoined
import GoSem.ClaimMapViews
import Derived.JoinedTies
import Derived.KernelRfl
namespace Go.Proofs.Ytkhggpopohkjfaa
/- THE CELL 'sum', in the pinned program and in every row, IS THE sha256 OF THE DUMP (.gsa) THAT YtkhggpopohkjfaaProg.lean LOADS. Nothing in Lean hashes anything: it is a label: what it is worth is what the hold of that sum in a sandbox is worth. -/
noncomputable def Try.pinned : Pinned := { name := "ytkhggpopohkjfaa", sum := "4565648ee363e07b8c7f0b635d15120ead670cf97b036a9e47839f46cc2f14b9", checked := Try.checked }
namespace Rows
def none {H : Type} : Left H := { results := [], args := [] }

/-- 'ambrylaw05.SlotCuts': WHATEVER THE INPUT: true; the input reads as it did. -/
def slotCutsSpec : ChangeSpec := { name := "slotCuts", fn := fun _ => fun
  | [d1, d2, d3] => { results := [.lit (.bool true)], args := [d1, d2, d3] }
  | _ => none }
def slotCutsRow : OpenClaim := { program := "ytkhggpopohkjfaa", sum := "4565648ee363e07b8c7f0b635d15120ead670cf97b036a9e47839f46cc2f14b9", func := "ambry/ambrylaw05.SlotCuts", spec := "slotCuts", unfollowed := true, recurses := true, apart := false }
def SlotCutsSaid : Prop := slotCutsRow.holds Try.pinned (OpenSpec.ofChange slotCutsSpec)

/-- ITS FALSE NEIGHBOUR: 'it returns false'. Refute it at one input. -/
def slotCutsWrong : ChangeSpec := { name := "slotCuts", fn := fun _ => fun
  | [d1, d2, d3] => { results := [.lit (.bool false)], args := [d1, d2, d3] }
  | _ => none }
def SlotCutsWrongFalsely : Prop := slotCutsRow.holds Try.pinned (OpenSpec.ofChange slotCutsWrong)

/-- 'ambrylaw05.SlotWhole': WHATEVER THE INPUT: true; the input reads as it did. -/
def slotWholeSpec : ChangeSpec := { name := "slotWhole", fn := fun _ => fun
  | [d1, d2, d3, d4] => { results := [.lit (.bool true)], args := [d1, d2, d3, d4] }
  | _ => none }
def slotWholeRow : OpenClaim := { program := "ytkhggpopohkjfaa", sum := "4565648ee363e07b8c7f0b635d15120ead670cf97b036a9e47839f46cc2f14b9", func := "ambry/ambrylaw05.SlotWhole", spec := "slotWhole", unfollowed := true, recurses := true, apart := false }
def SlotWholeSaid : Prop := slotWholeRow.holds Try.pinned (OpenSpec.ofChange slotWholeSpec)

/-- ITS FALSE NEIGHBOUR: 'it returns false'. Refute it at one input. -/
def slotWholeWrong : ChangeSpec := { name := "slotWhole", fn := fun _ => fun
  | [d1, d2, d3, d4] => { results := [.lit (.bool false)], args := [d1, d2, d3, d4] }
  | _ => none }
def SlotWholeWrongFalsely : Prop := slotWholeRow.holds Try.pinned (OpenSpec.ofChange slotWholeWrong)

/-- 'ambrylaw05.SlotElder': WHATEVER THE INPUT: true; the input reads as it did. -/
def slotElderSpec : ChangeSpec := { name := "slotElder", fn := fun _ => fun
  | [d1, d2, d3, d4, d5] => { results := [.lit (.bool true)], args := [d1, d2, d3, d4, d5] }
  | _ => none }
def slotElderRow : OpenClaim := { program := "ytkhggpopohkjfaa", sum := "4565648ee363e07b8c7f0b635d15120ead670cf97b036a9e47839f46cc2f14b9", func := "ambry/ambrylaw05.SlotElder", spec := "slotElder", unfollowed := true, recurses := true, apart := false }
def SlotElderSaid : Prop := slotElderRow.holds Try.pinned (OpenSpec.ofChange slotElderSpec)

/-- ITS FALSE NEIGHBOUR: 'it returns false'. Refute it at one input. -/
def slotElderWrong : ChangeSpec := { name := "slotElder", fn := fun _ => fun
  | [d1, d2, d3, d4, d5] => { results := [.lit (.bool false)], args := [d1, d2, d3, d4, d5] }
  | _ => none }
def SlotElderWrongFalsely : Prop := slotElderRow.holds Try.pinned (OpenSpec.ofChange slotElderWrong)

/-- 'ambrylaw05.SlotWrites': WHATEVER THE INPUT: true; the input reads as it did. -/
def slotWritesSpec : ChangeSpec := { name := "slotWrites", fn := fun _ => fun
  | [d] => { results := [.lit (.bool true)], args := [d] }
  | _ => none }
def slotWritesRow : OpenClaim := { program := "ytkhggpopohkjfaa", sum := "4565648ee363e07b8c7f0b635d15120ead670cf97b036a9e47839f46cc2f14b9", func := "ambry/ambrylaw05.SlotWrites", spec := "slotWrites", unfollowed := true, recurses := true, apart := false }
def SlotWritesSaid : Prop := slotWritesRow.holds Try.pinned (OpenSpec.ofChange slotWritesSpec)

/-- ITS FALSE NEIGHBOUR: 'it returns false'. Refute it at one input. -/
def slotWritesWrong : ChangeSpec := { name := "slotWrites", fn := fun _ => fun
  | [d] => { results := [.lit (.bool false)], args := [d] }
  | _ => none }
def SlotWritesWrongFalsely : Prop := slotWritesRow.holds Try.pinned (OpenSpec.ofChange slotWritesWrong)

/-- 'ambrylaw04.BlockSure': WHATEVER THE INPUT: true; the input reads as it did. -/
def blockSureSpec : ChangeSpec := { name := "blockSure", fn := fun _ => fun
  | [d1, d2, d3, d4, d5] => { results := [.lit (.bool true)], args := [d1, d2, d3, d4, d5] }
  | _ => none }
def blockSureRow : OpenClaim := { program := "ytkhggpopohkjfaa", sum := "4565648ee363e07b8c7f0b635d15120ead670cf97b036a9e47839f46cc2f14b9", func := "ambry/ambrylaw04.BlockSure", spec := "blockSure", unfollowed := true, recurses := true, apart := false }
def BlockSureSaid : Prop := blockSureRow.holds Try.pinned (OpenSpec.ofChange blockSureSpec)

/-- ITS FALSE NEIGHBOUR: 'it returns false'. Refute it at one input. -/
def blockSureWrong : ChangeSpec := { name := "blockSure", fn := fun _ => fun
  | [d1, d2, d3, d4, d5] => { results := [.lit (.bool false)], args := [d1, d2, d3, d4, d5] }
  | _ => none }
def BlockSureWrongFalsely : Prop := blockSureRow.holds Try.pinned (OpenSpec.ofChange blockSureWrong)

/-- 'ambrylaw06.RingRoom': WHATEVER THE INPUT: true; the input reads as it did. -/
def ringRoomSpec : ChangeSpec := { name := "ringRoom", fn := fun _ => fun
  | [d] => { results := [.lit (.bool true)], args := [d] }
  | _ => none }
def ringRoomRow : OpenClaim := { program := "ytkhggpopohkjfaa", sum := "4565648ee363e07b8c7f0b635d15120ead670cf97b036a9e47839f46cc2f14b9", func := "ambry/ambrylaw06.RingRoom", spec := "ringRoom", unfollowed := true, recurses := true, apart := false }
def RingRoomSaid : Prop := ringRoomRow.holds Try.pinned (OpenSpec.ofChange ringRoomSpec)

/-- ITS FALSE NEIGHBOUR: 'it returns false'. Refute it at one input. -/
def ringRoomWrong : ChangeSpec := { name := "ringRoom", fn := fun _ => fun
  | [d] => { results := [.lit (.bool false)], args := [d] }
  | _ => none }
def RingRoomWrongFalsely : Prop := ringRoomRow.holds Try.pinned (OpenSpec.ofChange ringRoomWrong)

/-- 'ambrylaw04.BlockWhole': WHATEVER THE INPUT: true; the input reads as it did. -/
def blockWholeSpec : ChangeSpec := { name := "blockWhole", fn := fun _ => fun
  | [d1, d2, d3] => { results := [.lit (.bool true)], args := [d1, d2, d3] }
  | _ => none }
def blockWholeRow : OpenClaim := { program := "ytkhggpopohkjfaa", sum := "4565648ee363e07b8c7f0b635d15120ead670cf97b036a9e47839f46cc2f14b9", func := "ambry/ambrylaw04.BlockWhole", spec := "blockWhole", unfollowed := true, recurses := true, apart := false }
def BlockWholeSaid : Prop := blockWholeRow.holds Try.pinned (OpenSpec.ofChange blockWholeSpec)

/-- ITS FALSE NEIGHBOUR: 'it returns false'. Refute it at one input. -/
def blockWholeWrong : ChangeSpec := { name := "blockWhole", fn := fun _ => fun
  | [d1, d2, d3] => { results := [.lit (.bool false)], args := [d1, d2, d3] }
  | _ => none }
def BlockWholeWrongFalsely : Prop := blockWholeRow.holds Try.pinned (OpenSpec.ofChange blockWholeWrong)

/-- 'ambrylaw06.RingNil': WHATEVER THE INPUT: true; the input reads as it did. -/
def ringNilSpec : ChangeSpec := { name := "ringNil", fn := fun _ => fun
  | [d1, d2, d3] => { results := [.lit (.bool true)], args := [d1, d2, d3] }
  | _ => none }
def ringNilRow : OpenClaim := { program := "ytkhggpopohkjfaa", sum := "4565648ee363e07b8c7f0b635d15120ead670cf97b036a9e47839f46cc2f14b9", func := "ambry/ambrylaw06.RingNil", spec := "ringNil", unfollowed := true, recurses := true, apart := false }
def RingNilSaid : Prop := ringNilRow.holds Try.pinned (OpenSpec.ofChange ringNilSpec)

/-- ITS FALSE NEIGHBOUR: 'it returns false'. Refute it at one input. -/
def ringNilWrong : ChangeSpec := { name := "ringNil", fn := fun _ => fun
  | [d1, d2, d3] => { results := [.lit (.bool false)], args := [d1, d2, d3] }
  | _ => none }
def RingNilWrongFalsely : Prop := ringNilRow.holds Try.pinned (OpenSpec.ofChange ringNilWrong)

/-- 'ambrylaw04.BlockDead': WHATEVER THE INPUT: true; the input reads as it did. -/
def blockDeadSpec : ChangeSpec := { name := "blockDead", fn := fun _ => fun
  | [d1, d2, d3] => { results := [.lit (.bool true)], args := [d1, d2, d3] }
  | _ => none }
def blockDeadRow : OpenClaim := { program := "ytkhggpopohkjfaa", sum := "4565648ee363e07b8c7f0b635d15120ead670cf97b036a9e47839f46cc2f14b9", func := "ambry/ambrylaw04.BlockDead", spec := "blockDead", unfollowed := true, recurses := true, apart := false }
def BlockDeadSaid : Prop := blockDeadRow.holds Try.pinned (OpenSpec.ofChange blockDeadSpec)

/-- ITS FALSE NEIGHBOUR: 'it returns false'. Refute it at one input. -/
def blockDeadWrong : ChangeSpec := { name := "blockDead", fn := fun _ => fun
  | [d1, d2, d3] => { results := [.lit (.bool false)], args := [d1, d2, d3] }
  | _ => none }
def BlockDeadWrongFalsely : Prop := blockDeadRow.holds Try.pinned (OpenSpec.ofChange blockDeadWrong)

/-- 'ambrylaw04.BlockPlays': WHATEVER THE INPUT: true; the input reads as it did. -/
def blockPlaysSpec : ChangeSpec := { name := "blockPlays", fn := fun _ => fun
  | [d1, d2, d3] => { results := [.lit (.bool true)], args := [d1, d2, d3] }
  | _ => none }
def blockPlaysRow : OpenClaim := { program := "ytkhggpopohkjfaa", sum := "4565648ee363e07b8c7f0b635d15120ead670cf97b036a9e47839f46cc2f14b9", func := "ambry/ambrylaw04.BlockPlays", spec := "blockPlays", unfollowed := true, recurses := true, apart := false }
def BlockPlaysSaid : Prop := blockPlaysRow.holds Try.pinned (OpenSpec.ofChange blockPlaysSpec)

/-- ITS FALSE NEIGHBOUR: 'it returns false'. Refute it at one input. -/
def blockPlaysWrong : ChangeSpec := { name := "blockPlays", fn := fun _ => fun
  | [d1, d2, d3] => { results := [.lit (.bool false)], args := [d1, d2, d3] }
  | _ => none }
def BlockPlaysWrongFalsely : Prop := blockPlaysRow.holds Try.pinned (OpenSpec.ofChange blockPlaysWrong)

/-- 'ambrylaw04.BlockNil': WHATEVER THE INPUT: true; the input reads as it did. -/
def blockNilSpec : ChangeSpec := { name := "blockNil", fn := fun _ => fun
  | [d1, d2, d3, d4] => { results := [.lit (.bool true)], args := [d1, d2, d3, d4] }
  | _ => none }
def blockNilRow : OpenClaim := { program := "ytkhggpopohkjfaa", sum := "4565648ee363e07b8c7f0b635d15120ead670cf97b036a9e47839f46cc2f14b9", func := "ambry/ambrylaw04.BlockNil", spec := "blockNil", unfollowed := true, recurses := true, apart := false }
def BlockNilSaid : Prop := blockNilRow.holds Try.pinned (OpenSpec.ofChange blockNilSpec)

/-- ITS FALSE NEIGHBOUR: 'it returns false'. Refute it at one input. -/
def blockNilWrong : ChangeSpec := { name := "blockNil", fn := fun _ => fun
  | [d1, d2, d3, d4] => { results := [.lit (.bool false)], args := [d1, d2, d3, d4] }
  | _ => none }
def BlockNilWrongFalsely : Prop := blockNilRow.holds Try.pinned (OpenSpec.ofChange blockNilWrong)

/-- 'ambrylaw05.SlotReads': WHATEVER THE INPUT: true; the input reads as it did. -/
def slotReadsSpec : ChangeSpec := { name := "slotReads", fn := fun _ => fun
  | [d] => { results := [.lit (.bool true)], args := [d] }
  | _ => none }
def slotReadsRow : OpenClaim := { program := "ytkhggpopohkjfaa", sum := "4565648ee363e07b8c7f0b635d15120ead670cf97b036a9e47839f46cc2f14b9", func := "ambry/ambrylaw05.SlotReads", spec := "slotReads", unfollowed := true, recurses := true, apart := false }
def SlotReadsSaid : Prop := slotReadsRow.holds Try.pinned (OpenSpec.ofChange slotReadsSpec)

/-- ITS FALSE NEIGHBOUR: 'it returns false'. Refute it at one input. -/
def slotReadsWrong : ChangeSpec := { name := "slotReads", fn := fun _ => fun
  | [d] => { results := [.lit (.bool false)], args := [d] }
  | _ => none }
def SlotReadsWrongFalsely : Prop := slotReadsRow.holds Try.pinned (OpenSpec.ofChange slotReadsWrong)

/-- 'ambrylaw05.SlotBack': WHATEVER THE INPUT: true; the input reads as it did. -/
def slotBackSpec : ChangeSpec := { name := "slotBack", fn := fun _ => fun
  | [d1, d2] => { results := [.lit (.bool true)], args := [d1, d2] }
  | _ => none }
def slotBackRow : OpenClaim := { program := "ytkhggpopohkjfaa", sum := "4565648ee363e07b8c7f0b635d15120ead670cf97b036a9e47839f46cc2f14b9", func := "ambry/ambrylaw05.SlotBack", spec := "slotBack", unfollowed := true, recurses := true, apart := false }
def SlotBackSaid : Prop := slotBackRow.holds Try.pinned (OpenSpec.ofChange slotBackSpec)

/-- ITS FALSE NEIGHBOUR: 'it returns false'. Refute it at one input. -/
def slotBackWrong : ChangeSpec := { name := "slotBack", fn := fun _ => fun
  | [d1, d2] => { results := [.lit (.bool false)], args := [d1, d2] }
  | _ => none }
def SlotBackWrongFalsely : Prop := slotBackRow.holds Try.pinned (OpenSpec.ofChange slotBackWrong)

/-- 'ambrylaw11.SuperWrites': WHATEVER THE INPUT: true; the input reads as it did. -/
def superWritesSpec : ChangeSpec := { name := "superWrites", fn := fun _ => fun
  | [d] => { results := [.lit (.bool true)], args := [d] }
  | _ => none }
def superWritesRow : OpenClaim := { program := "ytkhggpopohkjfaa", sum := "4565648ee363e07b8c7f0b635d15120ead670cf97b036a9e47839f46cc2f14b9", func := "ambry/ambrylaw11.SuperWrites", spec := "superWrites", unfollowed := true, recurses := true, apart := false }
def SuperWritesSaid : Prop := superWritesRow.holds Try.pinned (OpenSpec.ofChange superWritesSpec)

/-- ITS FALSE NEIGHBOUR: 'it returns false'. Refute it at one input. -/
def superWritesWrong : ChangeSpec := { name := "superWrites", fn := fun _ => fun
  | [d] => { results := [.lit (.bool false)], args := [d] }
  | _ => none }
def SuperWritesWrongFalsely : Prop := superWritesRow.holds Try.pinned (OpenSpec.ofChange superWritesWrong)

/-- 'ambrylaw11.SuperReads': WHATEVER THE INPUT: true; the input reads as it did. -/
def superReadsSpec : ChangeSpec := { name := "superReads", fn := fun _ => fun
  | [d] => { results := [.lit (.bool true)], args := [d] }
  | _ => none }
def superReadsRow : OpenClaim := { program := "ytkhggpopohkjfaa", sum := "4565648ee363e07b8c7f0b635d15120ead670cf97b036a9e47839f46cc2f14b9", func := "ambry/ambrylaw11.SuperReads", spec := "superReads", unfollowed := true, recurses := true, apart := false }
def SuperReadsSaid : Prop := superReadsRow.holds Try.pinned (OpenSpec.ofChange superReadsSpec)

/-- ITS FALSE NEIGHBOUR: 'it returns false'. Refute it at one input. -/
def superReadsWrong : ChangeSpec := { name := "superReads", fn := fun _ => fun
  | [d] => { results := [.lit (.bool false)], args := [d] }
  | _ => none }
def SuperReadsWrongFalsely : Prop := superReadsRow.holds Try.pinned (OpenSpec.ofChange superReadsWrong)

/-- 'ambrylaw11.SuperBack': WHATEVER THE INPUT: true; the input reads as it did. -/
def superBackSpec : ChangeSpec := { name := "superBack", fn := fun _ => fun
  | [d1, d2] => { results := [.lit (.bool true)], args := [d1, d2] }
  | _ => none }
def superBackRow : OpenClaim := { program := "ytkhggpopohkjfaa", sum := "4565648ee363e07b8c7f0b635d15120ead670cf97b036a9e47839f46cc2f14b9", func := "ambry/ambrylaw11.SuperBack", spec := "superBack", unfollowed := true, recurses := true, apart := false }
def SuperBackSaid : Prop := superBackRow.holds Try.pinned (OpenSpec.ofChange superBackSpec)

/-- ITS FALSE NEIGHBOUR: 'it returns false'. Refute it at one input. -/
def superBackWrong : ChangeSpec := { name := "superBack", fn := fun _ => fun
  | [d1, d2] => { results := [.lit (.bool false)], args := [d1, d2] }
  | _ => none }
def SuperBackWrongFalsely : Prop := superBackRow.holds Try.pinned (OpenSpec.ofChange superBackWrong)

/-- 'ambrylaw11.SuperTurned': WHATEVER THE INPUT: true; the input reads as it did. -/
def superTurnedSpec : ChangeSpec := { name := "superTurned", fn := fun _ => fun
  | [d1, d2, d3] => { results := [.lit (.bool true)], args := [d1, d2, d3] }
  | _ => none }
def superTurnedRow : OpenClaim := { program := "ytkhggpopohkjfaa", sum := "4565648ee363e07b8c7f0b635d15120ead670cf97b036a9e47839f46cc2f14b9", func := "ambry/ambrylaw11.SuperTurned", spec := "superTurned", unfollowed := true, recurses := true, apart := false }
def SuperTurnedSaid : Prop := superTurnedRow.holds Try.pinned (OpenSpec.ofChange superTurnedSpec)

/-- ITS FALSE NEIGHBOUR: 'it returns false'. Refute it at one input. -/
def superTurnedWrong : ChangeSpec := { name := "superTurned", fn := fun _ => fun
  | [d1, d2, d3] => { results := [.lit (.bool false)], args := [d1, d2, d3] }
  | _ => none }
def SuperTurnedWrongFalsely : Prop := superTurnedRow.holds Try.pinned (OpenSpec.ofChange superTurnedWrong)

/-- 'ambrylaw11.SuperEither': WHATEVER THE INPUT: true; the input reads as it did. -/
def superEitherSpec : ChangeSpec := { name := "superEither", fn := fun _ => fun
  | [d1, d2, d3] => { results := [.lit (.bool true)], args := [d1, d2, d3] }
  | _ => none }
def superEitherRow : OpenClaim := { program := "ytkhggpopohkjfaa", sum := "4565648ee363e07b8c7f0b635d15120ead670cf97b036a9e47839f46cc2f14b9", func := "ambry/ambrylaw11.SuperEither", spec := "superEither", unfollowed := true, recurses := true, apart := false }
def SuperEitherSaid : Prop := superEitherRow.holds Try.pinned (OpenSpec.ofChange superEitherSpec)

/-- ITS FALSE NEIGHBOUR: 'it returns false'. Refute it at one input. -/
def superEitherWrong : ChangeSpec := { name := "superEither", fn := fun _ => fun
  | [d1, d2, d3] => { results := [.lit (.bool false)], args := [d1, d2, d3] }
  | _ => none }
def SuperEitherWrongFalsely : Prop := superEitherRow.holds Try.pinned (OpenSpec.ofChange superEitherWrong)

/-- 'ambrylaw11.SuperNil': WHATEVER THE INPUT: true; the input reads as it did. -/
def superNilSpec : ChangeSpec := { name := "superNil", fn := fun _ => fun
  | [d1, d2] => { results := [.lit (.bool true)], args := [d1, d2] }
  | _ => none }
def superNilRow : OpenClaim := { program := "ytkhggpopohkjfaa", sum := "4565648ee363e07b8c7f0b635d15120ead670cf97b036a9e47839f46cc2f14b9", func := "ambry/ambrylaw11.SuperNil", spec := "superNil", unfollowed := true, recurses := true, apart := false }
def SuperNilSaid : Prop := superNilRow.holds Try.pinned (OpenSpec.ofChange superNilSpec)

/-- ITS FALSE NEIGHBOUR: 'it returns false'. Refute it at one input. -/
def superNilWrong : ChangeSpec := { name := "superNil", fn := fun _ => fun
  | [d1, d2] => { results := [.lit (.bool false)], args := [d1, d2] }
  | _ => none }
def SuperNilWrongFalsely : Prop := superNilRow.holds Try.pinned (OpenSpec.ofChange superNilWrong)

/-- 'ambrylaw11.SuperPlays': WHATEVER THE INPUT: true; the input reads as it did. -/
def superPlaysSpec : ChangeSpec := { name := "superPlays", fn := fun _ => fun
  | [d1, d2] => { results := [.lit (.bool true)], args := [d1, d2] }
  | _ => none }
def superPlaysRow : OpenClaim := { program := "ytkhggpopohkjfaa", sum := "4565648ee363e07b8c7f0b635d15120ead670cf97b036a9e47839f46cc2f14b9", func := "ambry/ambrylaw11.SuperPlays", spec := "superPlays", unfollowed := true, recurses := true, apart := false }
def SuperPlaysSaid : Prop := superPlaysRow.holds Try.pinned (OpenSpec.ofChange superPlaysSpec)

/-- ITS FALSE NEIGHBOUR: 'it returns false'. Refute it at one input. -/
def superPlaysWrong : ChangeSpec := { name := "superPlays", fn := fun _ => fun
  | [d1, d2] => { results := [.lit (.bool false)], args := [d1, d2] }
  | _ => none }
def SuperPlaysWrongFalsely : Prop := superPlaysRow.holds Try.pinned (OpenSpec.ofChange superPlaysWrong)

/-- 'ambrylaw06.RingFound': WHATEVER THE INPUT: true; the input reads as it did. -/
def ringFoundSpec : ChangeSpec := { name := "ringFound", fn := fun _ => fun
  | [d1, d2, d3, d4] => { results := [.lit (.bool true)], args := [d1, d2, d3, d4] }
  | _ => none }
def ringFoundRow : OpenClaim := { program := "ytkhggpopohkjfaa", sum := "4565648ee363e07b8c7f0b635d15120ead670cf97b036a9e47839f46cc2f14b9", func := "ambry/ambrylaw06.RingFound", spec := "ringFound", unfollowed := true, recurses := true, apart := false }
def RingFoundSaid : Prop := ringFoundRow.holds Try.pinned (OpenSpec.ofChange ringFoundSpec)

/-- ITS FALSE NEIGHBOUR: 'it returns false'. Refute it at one input. -/
def ringFoundWrong : ChangeSpec := { name := "ringFound", fn := fun _ => fun
  | [d1, d2, d3, d4] => { results := [.lit (.bool false)], args := [d1, d2, d3, d4] }
  | _ => none }
def RingFoundWrongFalsely : Prop := ringFoundRow.holds Try.pinned (OpenSpec.ofChange ringFoundWrong)

/- THE SECOND FORM. 'bulk': how many values and letters a reading holds, each counted each time it is reached (what is shared counts as often as it is met; a slice's spare places count too). A statement '..UptoSaid' is the law's where the arguments, and the package variables that the reading takes, are together of bulk at most 1048576: NARROWER than '..Said'. Prove '..Said' where nothing that the law and all that it calls make is longer than what came in: it says more and counts as full. Else prove '..UptoSaid'. A law counts once. -/
mutual
def uptoBulk {H : Type} : DataW H → Nat
  | .lit (.string bytes) => bytes.length + 1
  | .lit _ => 1
  | .nil => 1
  | .ptr d => uptoBulk d + 1
  | .slice elems spare => uptoBulkAll elems + uptoBulkAll spare + 1
  | .agg parts => uptoBulkAll parts + 1
  | .iface _ d => uptoBulk d + 1
  | .map entries => uptoBulkEntries entries + 1
  | .held _ => 1
def uptoBulkAll {H : Type} : List (DataW H) → Nat
  | [] => 0
  | d :: r => uptoBulk d + uptoBulkAll r
def uptoBulkEntries {H : Type} : List (Lit × DataW H) → Nat
  | [] => 0
  | x :: r => uptoBulkEntry x + uptoBulkEntries r
def uptoBulkEntry {H : Type} : Lit × DataW H → Nat
  | (.string bytes, d) => bytes.length + uptoBulk d + 1
  | (_, d) => uptoBulk d + 1
 end
def uptoSmall : (H : Type) → List (DataW H) → Bool := fun _ ds => decide (uptoBulkAll ds ≤ 1048576)
def OpenSpec.upto (s : _root_.Go.ChangeSpec) : _root_.Go.OpenSpec := { _root_.Go.OpenSpec.ofChange s with cond := some uptoSmall }

/-- 'ambrylaw05.SlotCuts', WHERE WHAT IT READS IS OF BULK AT MOST 1048576: true; the input reads as it did. -/
def slotCutsUptoRow : OpenClaim := { program := "ytkhggpopohkjfaa", sum := "4565648ee363e07b8c7f0b635d15120ead670cf97b036a9e47839f46cc2f14b9", func := "ambry/ambrylaw05.SlotCuts", spec := "slotCuts", unfollowed := true, recurses := true, apart := false, narrowed := true }
def SlotCutsUptoSaid : Prop := slotCutsUptoRow.holds Try.pinned (OpenSpec.upto slotCutsSpec)

/-- 'ambrylaw05.SlotWhole', WHERE WHAT IT READS IS OF BULK AT MOST 1048576: true; the input reads as it did. -/
def slotWholeUptoRow : OpenClaim := { program := "ytkhggpopohkjfaa", sum := "4565648ee363e07b8c7f0b635d15120ead670cf97b036a9e47839f46cc2f14b9", func := "ambry/ambrylaw05.SlotWhole", spec := "slotWhole", unfollowed := true, recurses := true, apart := false, narrowed := true }
def SlotWholeUptoSaid : Prop := slotWholeUptoRow.holds Try.pinned (OpenSpec.upto slotWholeSpec)

/-- 'ambrylaw05.SlotElder', WHERE WHAT IT READS IS OF BULK AT MOST 1048576: true; the input reads as it did. -/
def slotElderUptoRow : OpenClaim := { program := "ytkhggpopohkjfaa", sum := "4565648ee363e07b8c7f0b635d15120ead670cf97b036a9e47839f46cc2f14b9", func := "ambry/ambrylaw05.SlotElder", spec := "slotElder", unfollowed := true, recurses := true, apart := false, narrowed := true }
def SlotElderUptoSaid : Prop := slotElderUptoRow.holds Try.pinned (OpenSpec.upto slotElderSpec)

/-- 'ambrylaw05.SlotWrites', WHERE WHAT IT READS IS OF BULK AT MOST 1048576: true; the input reads as it did. -/
def slotWritesUptoRow : OpenClaim := { program := "ytkhggpopohkjfaa", sum := "4565648ee363e07b8c7f0b635d15120ead670cf97b036a9e47839f46cc2f14b9", func := "ambry/ambrylaw05.SlotWrites", spec := "slotWrites", unfollowed := true, recurses := true, apart := false, narrowed := true }
def SlotWritesUptoSaid : Prop := slotWritesUptoRow.holds Try.pinned (OpenSpec.upto slotWritesSpec)

/-- 'ambrylaw04.BlockSure', WHERE WHAT IT READS IS OF BULK AT MOST 1048576: true; the input reads as it did. -/
def blockSureUptoRow : OpenClaim := { program := "ytkhggpopohkjfaa", sum := "4565648ee363e07b8c7f0b635d15120ead670cf97b036a9e47839f46cc2f14b9", func := "ambry/ambrylaw04.BlockSure", spec := "blockSure", unfollowed := true, recurses := true, apart := false, narrowed := true }
def BlockSureUptoSaid : Prop := blockSureUptoRow.holds Try.pinned (OpenSpec.upto blockSureSpec)

/-- 'ambrylaw06.RingRoom', WHERE WHAT IT READS IS OF BULK AT MOST 1048576: true; the input reads as it did. -/
def ringRoomUptoRow : OpenClaim := { program := "ytkhggpopohkjfaa", sum := "4565648ee363e07b8c7f0b635d15120ead670cf97b036a9e47839f46cc2f14b9", func := "ambry/ambrylaw06.RingRoom", spec := "ringRoom", unfollowed := true, recurses := true, apart := false, narrowed := true }
def RingRoomUptoSaid : Prop := ringRoomUptoRow.holds Try.pinned (OpenSpec.upto ringRoomSpec)

/-- 'ambrylaw04.BlockWhole', WHERE WHAT IT READS IS OF BULK AT MOST 1048576: true; the input reads as it did. -/
def blockWholeUptoRow : OpenClaim := { program := "ytkhggpopohkjfaa", sum := "4565648ee363e07b8c7f0b635d15120ead670cf97b036a9e47839f46cc2f14b9", func := "ambry/ambrylaw04.BlockWhole", spec := "blockWhole", unfollowed := true, recurses := true, apart := false, narrowed := true }
def BlockWholeUptoSaid : Prop := blockWholeUptoRow.holds Try.pinned (OpenSpec.upto blockWholeSpec)

/-- 'ambrylaw06.RingNil', WHERE WHAT IT READS IS OF BULK AT MOST 1048576: true; the input reads as it did. -/
def ringNilUptoRow : OpenClaim := { program := "ytkhggpopohkjfaa", sum := "4565648ee363e07b8c7f0b635d15120ead670cf97b036a9e47839f46cc2f14b9", func := "ambry/ambrylaw06.RingNil", spec := "ringNil", unfollowed := true, recurses := true, apart := false, narrowed := true }
def RingNilUptoSaid : Prop := ringNilUptoRow.holds Try.pinned (OpenSpec.upto ringNilSpec)

/-- 'ambrylaw04.BlockDead', WHERE WHAT IT READS IS OF BULK AT MOST 1048576: true; the input reads as it did. -/
def blockDeadUptoRow : OpenClaim := { program := "ytkhggpopohkjfaa", sum := "4565648ee363e07b8c7f0b635d15120ead670cf97b036a9e47839f46cc2f14b9", func := "ambry/ambrylaw04.BlockDead", spec := "blockDead", unfollowed := true, recurses := true, apart := false, narrowed := true }
def BlockDeadUptoSaid : Prop := blockDeadUptoRow.holds Try.pinned (OpenSpec.upto blockDeadSpec)

/-- 'ambrylaw04.BlockPlays', WHERE WHAT IT READS IS OF BULK AT MOST 1048576: true; the input reads as it did. -/
def blockPlaysUptoRow : OpenClaim := { program := "ytkhggpopohkjfaa", sum := "4565648ee363e07b8c7f0b635d15120ead670cf97b036a9e47839f46cc2f14b9", func := "ambry/ambrylaw04.BlockPlays", spec := "blockPlays", unfollowed := true, recurses := true, apart := false, narrowed := true }
def BlockPlaysUptoSaid : Prop := blockPlaysUptoRow.holds Try.pinned (OpenSpec.upto blockPlaysSpec)

/-- 'ambrylaw04.BlockNil', WHERE WHAT IT READS IS OF BULK AT MOST 1048576: true; the input reads as it did. -/
def blockNilUptoRow : OpenClaim := { program := "ytkhggpopohkjfaa", sum := "4565648ee363e07b8c7f0b635d15120ead670cf97b036a9e47839f46cc2f14b9", func := "ambry/ambrylaw04.BlockNil", spec := "blockNil", unfollowed := true, recurses := true, apart := false, narrowed := true }
def BlockNilUptoSaid : Prop := blockNilUptoRow.holds Try.pinned (OpenSpec.upto blockNilSpec)

/-- 'ambrylaw05.SlotReads', WHERE WHAT IT READS IS OF BULK AT MOST 1048576: true; the input reads as it did. -/
def slotReadsUptoRow : OpenClaim := { program := "ytkhggpopohkjfaa", sum := "4565648ee363e07b8c7f0b635d15120ead670cf97b036a9e47839f46cc2f14b9", func := "ambry/ambrylaw05.SlotReads", spec := "slotReads", unfollowed := true, recurses := true, apart := false, narrowed := true }
def SlotReadsUptoSaid : Prop := slotReadsUptoRow.holds Try.pinned (OpenSpec.upto slotReadsSpec)

/-- 'ambrylaw05.SlotBack', WHERE WHAT IT READS IS OF BULK AT MOST 1048576: true; the input reads as it did. -/
def slotBackUptoRow : OpenClaim := { program := "ytkhggpopohkjfaa", sum := "4565648ee363e07b8c7f0b635d15120ead670cf97b036a9e47839f46cc2f14b9", func := "ambry/ambrylaw05.SlotBack", spec := "slotBack", unfollowed := true, recurses := true, apart := false, narrowed := true }
def SlotBackUptoSaid : Prop := slotBackUptoRow.holds Try.pinned (OpenSpec.upto slotBackSpec)

/-- 'ambrylaw11.SuperWrites', WHERE WHAT IT READS IS OF BULK AT MOST 1048576: true; the input reads as it did. -/
def superWritesUptoRow : OpenClaim := { program := "ytkhggpopohkjfaa", sum := "4565648ee363e07b8c7f0b635d15120ead670cf97b036a9e47839f46cc2f14b9", func := "ambry/ambrylaw11.SuperWrites", spec := "superWrites", unfollowed := true, recurses := true, apart := false, narrowed := true }
def SuperWritesUptoSaid : Prop := superWritesUptoRow.holds Try.pinned (OpenSpec.upto superWritesSpec)

/-- 'ambrylaw11.SuperReads', WHERE WHAT IT READS IS OF BULK AT MOST 1048576: true; the input reads as it did. -/
def superReadsUptoRow : OpenClaim := { program := "ytkhggpopohkjfaa", sum := "4565648ee363e07b8c7f0b635d15120ead670cf97b036a9e47839f46cc2f14b9", func := "ambry/ambrylaw11.SuperReads", spec := "superReads", unfollowed := true, recurses := true, apart := false, narrowed := true }
def SuperReadsUptoSaid : Prop := superReadsUptoRow.holds Try.pinned (OpenSpec.upto superReadsSpec)

/-- 'ambrylaw11.SuperBack', WHERE WHAT IT READS IS OF BULK AT MOST 1048576: true; the input reads as it did. -/
def superBackUptoRow : OpenClaim := { program := "ytkhggpopohkjfaa", sum := "4565648ee363e07b8c7f0b635d15120ead670cf97b036a9e47839f46cc2f14b9", func := "ambry/ambrylaw11.SuperBack", spec := "superBack", unfollowed := true, recurses := true, apart := false, narrowed := true }
def SuperBackUptoSaid : Prop := superBackUptoRow.holds Try.pinned (OpenSpec.upto superBackSpec)

/-- 'ambrylaw11.SuperTurned', WHERE WHAT IT READS IS OF BULK AT MOST 1048576: true; the input reads as it did. -/
def superTurnedUptoRow : OpenClaim := { program := "ytkhggpopohkjfaa", sum := "4565648ee363e07b8c7f0b635d15120ead670cf97b036a9e47839f46cc2f14b9", func := "ambry/ambrylaw11.SuperTurned", spec := "superTurned", unfollowed := true, recurses := true, apart := false, narrowed := true }
def SuperTurnedUptoSaid : Prop := superTurnedUptoRow.holds Try.pinned (OpenSpec.upto superTurnedSpec)

/-- 'ambrylaw11.SuperEither', WHERE WHAT IT READS IS OF BULK AT MOST 1048576: true; the input reads as it did. -/
def superEitherUptoRow : OpenClaim := { program := "ytkhggpopohkjfaa", sum := "4565648ee363e07b8c7f0b635d15120ead670cf97b036a9e47839f46cc2f14b9", func := "ambry/ambrylaw11.SuperEither", spec := "superEither", unfollowed := true, recurses := true, apart := false, narrowed := true }
def SuperEitherUptoSaid : Prop := superEitherUptoRow.holds Try.pinned (OpenSpec.upto superEitherSpec)

/-- 'ambrylaw11.SuperNil', WHERE WHAT IT READS IS OF BULK AT MOST 1048576: true; the input reads as it did. -/
def superNilUptoRow : OpenClaim := { program := "ytkhggpopohkjfaa", sum := "4565648ee363e07b8c7f0b635d15120ead670cf97b036a9e47839f46cc2f14b9", func := "ambry/ambrylaw11.SuperNil", spec := "superNil", unfollowed := true, recurses := true, apart := false, narrowed := true }
def SuperNilUptoSaid : Prop := superNilUptoRow.holds Try.pinned (OpenSpec.upto superNilSpec)

/-- 'ambrylaw11.SuperPlays', WHERE WHAT IT READS IS OF BULK AT MOST 1048576: true; the input reads as it did. -/
def superPlaysUptoRow : OpenClaim := { program := "ytkhggpopohkjfaa", sum := "4565648ee363e07b8c7f0b635d15120ead670cf97b036a9e47839f46cc2f14b9", func := "ambry/ambrylaw11.SuperPlays", spec := "superPlays", unfollowed := true, recurses := true, apart := false, narrowed := true }
def SuperPlaysUptoSaid : Prop := superPlaysUptoRow.holds Try.pinned (OpenSpec.upto superPlaysSpec)

/-- 'ambrylaw06.RingFound', WHERE WHAT IT READS IS OF BULK AT MOST 1048576: true; the input reads as it did. -/
def ringFoundUptoRow : OpenClaim := { program := "ytkhggpopohkjfaa", sum := "4565648ee363e07b8c7f0b635d15120ead670cf97b036a9e47839f46cc2f14b9", func := "ambry/ambrylaw06.RingFound", spec := "ringFound", unfollowed := true, recurses := true, apart := false, narrowed := true }
def RingFoundUptoSaid : Prop := ringFoundUptoRow.holds Try.pinned (OpenSpec.upto ringFoundSpec)

end Rows
end Go.Proofs.Ytkhggpopohkjfaa
