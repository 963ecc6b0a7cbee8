/-
  No cell of these rows narrows 'for every input' (looked for: loops, veiled, ifaces, maps, wideKeys, modest, calm, conditions, laid).
  DERIVED. THE GIVEN ROWS OF THIS SEAT. 11 by the template 'for every input the law returns true; each argument reads behind the call as it read before'; 0 by the template 'total and deterministic' (their statements: YtpddbffamejgeaaTotals.lean).
  GIVEN WITH THE SEED: the statements are not yours to turn. If you find one false, say at which input.
  Laid BY PROGRAM, IN A SANDBOX (cutbox-rows.mjs): the forced cells as the released guide's own fill.sh prints them over the translation d78ac695ec09eb38… (all of the seat's roots in one cut). By AI agents, Wed Nov 11 2026. No macro, syntax, notation, axiom, sorry.
-/
import Derived.Test.YtpddbffamejgeaaChecked
import GoSem.Claim
import GoSem.ClaimJoined
import GoSem.ClaimMapViews
import Derived.JoinedTies
import Derived.KernelRfl
namespace Go.Proofs.Ytpddbffamejgeaa
/- THE CELL 'sum', in the pinned program and in every row, IS THE sha256 OF THE DUMP (.gsa) THAT YtpddbffamejgeaaProg.lean LOADS. Nothing in Lean hashes anything: it is a label: what it is worth is what the hold of that sum in a sandbox is worth. -/
noncomputable def Try.pinned : Pinned := { name := "ytpddbffamejgeaa", sum := "d78ac695ec09eb380a7ac6f9d331db6372ff7fc6456c3c174e9dfb769c8bd4c5", checked := Try.checked }
namespace Rows
def none {H : Type} : Left H := { results := [], args := [] }

/-- 'falseworklaw09.StampBack': WHATEVER THE INPUT: true; the input reads as it did. -/
def stampBackSpec : ChangeSpec := { name := "stampBack", fn := fun _ => fun
  | [d1, d2, d3] => { results := [.lit (.bool true)], args := [d1, d2, d3] }
  | _ => none }
def stampBackRow : OpenClaim := { program := "ytpddbffamejgeaa", sum := "d78ac695ec09eb380a7ac6f9d331db6372ff7fc6456c3c174e9dfb769c8bd4c5", func := "falsework/falseworklaw09.StampBack", spec := "stampBack", apart := false }
def StampBackSaid : Prop := stampBackRow.holds Try.pinned (OpenSpec.ofChange stampBackSpec)

/-- ITS FALSE NEIGHBOUR: 'it returns false'. Refute it at one input. -/
def stampBackWrong : ChangeSpec := { name := "stampBack", fn := fun _ => fun
  | [d1, d2, d3] => { results := [.lit (.bool false)], args := [d1, d2, d3] }
  | _ => none }
def StampBackWrongFalsely : Prop := stampBackRow.holds Try.pinned (OpenSpec.ofChange stampBackWrong)

/-- 'falseworklaw09.StampRuns': WHATEVER THE INPUT: true; the input reads as it did. -/
def stampRunsSpec : ChangeSpec := { name := "stampRuns", fn := fun _ => fun
  | [d1, d2, d3] => { results := [.lit (.bool true)], args := [d1, d2, d3] }
  | _ => none }
def stampRunsRow : OpenClaim := { program := "ytpddbffamejgeaa", sum := "d78ac695ec09eb380a7ac6f9d331db6372ff7fc6456c3c174e9dfb769c8bd4c5", func := "falsework/falseworklaw09.StampRuns", spec := "stampRuns", unfollowed := true, recurses := true, apart := false }
def StampRunsSaid : Prop := stampRunsRow.holds Try.pinned (OpenSpec.ofChange stampRunsSpec)

/-- ITS FALSE NEIGHBOUR: 'it returns false'. Refute it at one input. -/
def stampRunsWrong : ChangeSpec := { name := "stampRuns", fn := fun _ => fun
  | [d1, d2, d3] => { results := [.lit (.bool false)], args := [d1, d2, d3] }
  | _ => none }
def StampRunsWrongFalsely : Prop := stampRunsRow.holds Try.pinned (OpenSpec.ofChange stampRunsWrong)

/-- 'falseworklaw09.StampTorn': WHATEVER THE INPUT: true; the input reads as it did. -/
def stampTornSpec : ChangeSpec := { name := "stampTorn", fn := fun _ => fun
  | [d1, d2, d3] => { results := [.lit (.bool true)], args := [d1, d2, d3] }
  | _ => none }
def stampTornRow : OpenClaim := { program := "ytpddbffamejgeaa", sum := "d78ac695ec09eb380a7ac6f9d331db6372ff7fc6456c3c174e9dfb769c8bd4c5", func := "falsework/falseworklaw09.StampTorn", spec := "stampTorn", unfollowed := true, recurses := true, apart := false }
def StampTornSaid : Prop := stampTornRow.holds Try.pinned (OpenSpec.ofChange stampTornSpec)

/-- ITS FALSE NEIGHBOUR: 'it returns false'. Refute it at one input. -/
def stampTornWrong : ChangeSpec := { name := "stampTorn", fn := fun _ => fun
  | [d1, d2, d3] => { results := [.lit (.bool false)], args := [d1, d2, d3] }
  | _ => none }
def StampTornWrongFalsely : Prop := stampTornRow.holds Try.pinned (OpenSpec.ofChange stampTornWrong)

/-- 'falseworklaw10.LogRoom': WHATEVER THE INPUT: true; the input reads as it did. -/
def logRoomSpec : ChangeSpec := { name := "logRoom", fn := fun _ => fun
  | [d1, d2] => { results := [.lit (.bool true)], args := [d1, d2] }
  | _ => none }
def logRoomRow : OpenClaim := { program := "ytpddbffamejgeaa", sum := "d78ac695ec09eb380a7ac6f9d331db6372ff7fc6456c3c174e9dfb769c8bd4c5", func := "falsework/falseworklaw10.LogRoom", spec := "logRoom", unfollowed := true, recurses := true, apart := false }
def LogRoomSaid : Prop := logRoomRow.holds Try.pinned (OpenSpec.ofChange logRoomSpec)

/-- ITS FALSE NEIGHBOUR: 'it returns false'. Refute it at one input. -/
def logRoomWrong : ChangeSpec := { name := "logRoom", fn := fun _ => fun
  | [d1, d2] => { results := [.lit (.bool false)], args := [d1, d2] }
  | _ => none }
def LogRoomWrongFalsely : Prop := logRoomRow.holds Try.pinned (OpenSpec.ofChange logRoomWrong)

/-- 'falseworklaw11.SlotTurns': WHATEVER THE INPUT: true; the input reads as it did. -/
def slotTurnsSpec : ChangeSpec := { name := "slotTurns", fn := fun _ => fun
  | [d] => { results := [.lit (.bool true)], args := [d] }
  | _ => none }
def slotTurnsRow : OpenClaim := { program := "ytpddbffamejgeaa", sum := "d78ac695ec09eb380a7ac6f9d331db6372ff7fc6456c3c174e9dfb769c8bd4c5", func := "falsework/falseworklaw11.SlotTurns", spec := "slotTurns", unfollowed := true, recurses := true, apart := false }
def SlotTurnsSaid : Prop := slotTurnsRow.holds Try.pinned (OpenSpec.ofChange slotTurnsSpec)

/-- ITS FALSE NEIGHBOUR: 'it returns false'. Refute it at one input. -/
def slotTurnsWrong : ChangeSpec := { name := "slotTurns", fn := fun _ => fun
  | [d] => { results := [.lit (.bool false)], args := [d] }
  | _ => none }
def SlotTurnsWrongFalsely : Prop := slotTurnsRow.holds Try.pinned (OpenSpec.ofChange slotTurnsWrong)

/-- 'falseworklaw10.LogKeeps': WHATEVER THE INPUT: true; the input reads as it did. -/
def logKeepsSpec : ChangeSpec := { name := "logKeeps", fn := fun _ => fun
  | [d1, d2, d3] => { results := [.lit (.bool true)], args := [d1, d2, d3] }
  | _ => none }
def logKeepsRow : OpenClaim := { program := "ytpddbffamejgeaa", sum := "d78ac695ec09eb380a7ac6f9d331db6372ff7fc6456c3c174e9dfb769c8bd4c5", func := "falsework/falseworklaw10.LogKeeps", spec := "logKeeps", unfollowed := true, recurses := true, apart := false }
def LogKeepsSaid : Prop := logKeepsRow.holds Try.pinned (OpenSpec.ofChange logKeepsSpec)

/-- ITS FALSE NEIGHBOUR: 'it returns false'. Refute it at one input. -/
def logKeepsWrong : ChangeSpec := { name := "logKeeps", fn := fun _ => fun
  | [d1, d2, d3] => { results := [.lit (.bool false)], args := [d1, d2, d3] }
  | _ => none }
def LogKeepsWrongFalsely : Prop := logKeepsRow.holds Try.pinned (OpenSpec.ofChange logKeepsWrong)

/-- 'falseworklaw11.SlotRuns': WHATEVER THE INPUT: true; the input reads as it did. -/
def slotRunsSpec : ChangeSpec := { name := "slotRuns", fn := fun _ => fun
  | [d1, d2] => { results := [.lit (.bool true)], args := [d1, d2] }
  | _ => none }
def slotRunsRow : OpenClaim := { program := "ytpddbffamejgeaa", sum := "d78ac695ec09eb380a7ac6f9d331db6372ff7fc6456c3c174e9dfb769c8bd4c5", func := "falsework/falseworklaw11.SlotRuns", spec := "slotRuns", unfollowed := true, recurses := true, apart := false }
def SlotRunsSaid : Prop := slotRunsRow.holds Try.pinned (OpenSpec.ofChange slotRunsSpec)

/-- ITS FALSE NEIGHBOUR: 'it returns false'. Refute it at one input. -/
def slotRunsWrong : ChangeSpec := { name := "slotRuns", fn := fun _ => fun
  | [d1, d2] => { results := [.lit (.bool false)], args := [d1, d2] }
  | _ => none }
def SlotRunsWrongFalsely : Prop := slotRunsRow.holds Try.pinned (OpenSpec.ofChange slotRunsWrong)

/-- 'falseworklaw11.SlotTorn': WHATEVER THE INPUT: true; the input reads as it did. -/
def slotTornSpec : ChangeSpec := { name := "slotTorn", fn := fun _ => fun
  | [d1, d2] => { results := [.lit (.bool true)], args := [d1, d2] }
  | _ => none }
def slotTornRow : OpenClaim := { program := "ytpddbffamejgeaa", sum := "d78ac695ec09eb380a7ac6f9d331db6372ff7fc6456c3c174e9dfb769c8bd4c5", func := "falsework/falseworklaw11.SlotTorn", spec := "slotTorn", unfollowed := true, recurses := true, apart := false }
def SlotTornSaid : Prop := slotTornRow.holds Try.pinned (OpenSpec.ofChange slotTornSpec)

/-- ITS FALSE NEIGHBOUR: 'it returns false'. Refute it at one input. -/
def slotTornWrong : ChangeSpec := { name := "slotTorn", fn := fun _ => fun
  | [d1, d2] => { results := [.lit (.bool false)], args := [d1, d2] }
  | _ => none }
def SlotTornWrongFalsely : Prop := slotTornRow.holds Try.pinned (OpenSpec.ofChange slotTornWrong)

/-- 'falseworklaw12.JournalFloors': WHATEVER THE INPUT: true; the input reads as it did. -/
def journalFloorsSpec : ChangeSpec := { name := "journalFloors", fn := fun _ => fun
  | [d1, d2] => { results := [.lit (.bool true)], args := [d1, d2] }
  | _ => none }
def journalFloorsRow : OpenClaim := { program := "ytpddbffamejgeaa", sum := "d78ac695ec09eb380a7ac6f9d331db6372ff7fc6456c3c174e9dfb769c8bd4c5", func := "falsework/falseworklaw12.JournalFloors", spec := "journalFloors", unfollowed := true, recurses := true, apart := false }
def JournalFloorsSaid : Prop := journalFloorsRow.holds Try.pinned (OpenSpec.ofChange journalFloorsSpec)

/-- ITS FALSE NEIGHBOUR: 'it returns false'. Refute it at one input. -/
def journalFloorsWrong : ChangeSpec := { name := "journalFloors", fn := fun _ => fun
  | [d1, d2] => { results := [.lit (.bool false)], args := [d1, d2] }
  | _ => none }
def JournalFloorsWrongFalsely : Prop := journalFloorsRow.holds Try.pinned (OpenSpec.ofChange journalFloorsWrong)

/-- 'falseworklaw12.JournalKeeps': WHATEVER THE INPUT: true; the input reads as it did. -/
def journalKeepsSpec : ChangeSpec := { name := "journalKeeps", fn := fun _ => fun
  | [d1, d2] => { results := [.lit (.bool true)], args := [d1, d2] }
  | _ => none }
def journalKeepsRow : OpenClaim := { program := "ytpddbffamejgeaa", sum := "d78ac695ec09eb380a7ac6f9d331db6372ff7fc6456c3c174e9dfb769c8bd4c5", func := "falsework/falseworklaw12.JournalKeeps", spec := "journalKeeps", unfollowed := true, recurses := true, apart := false }
def JournalKeepsSaid : Prop := journalKeepsRow.holds Try.pinned (OpenSpec.ofChange journalKeepsSpec)

/-- ITS FALSE NEIGHBOUR: 'it returns false'. Refute it at one input. -/
def journalKeepsWrong : ChangeSpec := { name := "journalKeeps", fn := fun _ => fun
  | [d1, d2] => { results := [.lit (.bool false)], args := [d1, d2] }
  | _ => none }
def JournalKeepsWrongFalsely : Prop := journalKeepsRow.holds Try.pinned (OpenSpec.ofChange journalKeepsWrong)

/-- 'falseworklaw12.JournalRuns': WHATEVER THE INPUT: true; the input reads as it did. -/
def journalRunsSpec : ChangeSpec := { name := "journalRuns", fn := fun _ => fun
  | [d1, d2, d3] => { results := [.lit (.bool true)], args := [d1, d2, d3] }
  | _ => none }
def journalRunsRow : OpenClaim := { program := "ytpddbffamejgeaa", sum := "d78ac695ec09eb380a7ac6f9d331db6372ff7fc6456c3c174e9dfb769c8bd4c5", func := "falsework/falseworklaw12.JournalRuns", spec := "journalRuns", unfollowed := true, recurses := true, apart := false }
def JournalRunsSaid : Prop := journalRunsRow.holds Try.pinned (OpenSpec.ofChange journalRunsSpec)

/-- ITS FALSE NEIGHBOUR: 'it returns false'. Refute it at one input. -/
def journalRunsWrong : ChangeSpec := { name := "journalRuns", fn := fun _ => fun
  | [d1, d2, d3] => { results := [.lit (.bool false)], args := [d1, d2, d3] }
  | _ => none }
def JournalRunsWrongFalsely : Prop := journalRunsRow.holds Try.pinned (OpenSpec.ofChange journalRunsWrong)

/- THE SECOND FORM. 'bulk': how many values and letters a reading holds, each counted each time it is reached (what is shared counts as often as it is met; a slice's spare places count too). A statement '..UptoSaid' is the law's where the arguments, and the package variables that the reading takes, are together of bulk at most 1048576: NARROWER than '..Said'. Prove '..Said' where nothing that the law and all that it calls make is longer than what came in: it says more and counts as full. Else prove '..UptoSaid'. A law counts once. -/
mutual
def uptoBulk {H : Type} : DataW H → Nat
  | .lit (.string bytes) => bytes.length + 1
  | .lit _ => 1
  | .nil => 1
  | .ptr d => uptoBulk d + 1
  | .slice elems spare => uptoBulkAll elems + uptoBulkAll spare + 1
  | .agg parts => uptoBulkAll parts + 1
  | .iface _ d => uptoBulk d + 1
  | .map entries => uptoBulkEntries entries + 1
  | .held _ => 1
def uptoBulkAll {H : Type} : List (DataW H) → Nat
  | [] => 0
  | d :: r => uptoBulk d + uptoBulkAll r
def uptoBulkEntries {H : Type} : List (Lit × DataW H) → Nat
  | [] => 0
  | x :: r => uptoBulkEntry x + uptoBulkEntries r
def uptoBulkEntry {H : Type} : Lit × DataW H → Nat
  | (.string bytes, d) => bytes.length + uptoBulk d + 1
  | (_, d) => uptoBulk d + 1
 end
def uptoSmall : (H : Type) → List (DataW H) → Bool := fun _ ds => decide (uptoBulkAll ds ≤ 1048576)
def OpenSpec.upto (s : _root_.Go.ChangeSpec) : _root_.Go.OpenSpec := { _root_.Go.OpenSpec.ofChange s with cond := some uptoSmall }

/-- 'falseworklaw09.StampBack', WHERE WHAT IT READS IS OF BULK AT MOST 1048576: true; the input reads as it did. -/
def stampBackUptoRow : OpenClaim := { program := "ytpddbffamejgeaa", sum := "d78ac695ec09eb380a7ac6f9d331db6372ff7fc6456c3c174e9dfb769c8bd4c5", func := "falsework/falseworklaw09.StampBack", spec := "stampBack", apart := false, narrowed := true }
def StampBackUptoSaid : Prop := stampBackUptoRow.holds Try.pinned (OpenSpec.upto stampBackSpec)

/-- 'falseworklaw09.StampRuns', WHERE WHAT IT READS IS OF BULK AT MOST 1048576: true; the input reads as it did. -/
def stampRunsUptoRow : OpenClaim := { program := "ytpddbffamejgeaa", sum := "d78ac695ec09eb380a7ac6f9d331db6372ff7fc6456c3c174e9dfb769c8bd4c5", func := "falsework/falseworklaw09.StampRuns", spec := "stampRuns", unfollowed := true, recurses := true, apart := false, narrowed := true }
def StampRunsUptoSaid : Prop := stampRunsUptoRow.holds Try.pinned (OpenSpec.upto stampRunsSpec)

/-- 'falseworklaw09.StampTorn', WHERE WHAT IT READS IS OF BULK AT MOST 1048576: true; the input reads as it did. -/
def stampTornUptoRow : OpenClaim := { program := "ytpddbffamejgeaa", sum := "d78ac695ec09eb380a7ac6f9d331db6372ff7fc6456c3c174e9dfb769c8bd4c5", func := "falsework/falseworklaw09.StampTorn", spec := "stampTorn", unfollowed := true, recurses := true, apart := false, narrowed := true }
def StampTornUptoSaid : Prop := stampTornUptoRow.holds Try.pinned (OpenSpec.upto stampTornSpec)

/-- 'falseworklaw10.LogRoom', WHERE WHAT IT READS IS OF BULK AT MOST 1048576: true; the input reads as it did. -/
def logRoomUptoRow : OpenClaim := { program := "ytpddbffamejgeaa", sum := "d78ac695ec09eb380a7ac6f9d331db6372ff7fc6456c3c174e9dfb769c8bd4c5", func := "falsework/falseworklaw10.LogRoom", spec := "logRoom", unfollowed := true, recurses := true, apart := false, narrowed := true }
def LogRoomUptoSaid : Prop := logRoomUptoRow.holds Try.pinned (OpenSpec.upto logRoomSpec)

/-- 'falseworklaw11.SlotTurns', WHERE WHAT IT READS IS OF BULK AT MOST 1048576: true; the input reads as it did. -/
def slotTurnsUptoRow : OpenClaim := { program := "ytpddbffamejgeaa", sum := "d78ac695ec09eb380a7ac6f9d331db6372ff7fc6456c3c174e9dfb769c8bd4c5", func := "falsework/falseworklaw11.SlotTurns", spec := "slotTurns", unfollowed := true, recurses := true, apart := false, narrowed := true }
def SlotTurnsUptoSaid : Prop := slotTurnsUptoRow.holds Try.pinned (OpenSpec.upto slotTurnsSpec)

/-- 'falseworklaw10.LogKeeps', WHERE WHAT IT READS IS OF BULK AT MOST 1048576: true; the input reads as it did. -/
def logKeepsUptoRow : OpenClaim := { program := "ytpddbffamejgeaa", sum := "d78ac695ec09eb380a7ac6f9d331db6372ff7fc6456c3c174e9dfb769c8bd4c5", func := "falsework/falseworklaw10.LogKeeps", spec := "logKeeps", unfollowed := true, recurses := true, apart := false, narrowed := true }
def LogKeepsUptoSaid : Prop := logKeepsUptoRow.holds Try.pinned (OpenSpec.upto logKeepsSpec)

/-- 'falseworklaw11.SlotRuns', WHERE WHAT IT READS IS OF BULK AT MOST 1048576: true; the input reads as it did. -/
def slotRunsUptoRow : OpenClaim := { program := "ytpddbffamejgeaa", sum := "d78ac695ec09eb380a7ac6f9d331db6372ff7fc6456c3c174e9dfb769c8bd4c5", func := "falsework/falseworklaw11.SlotRuns", spec := "slotRuns", unfollowed := true, recurses := true, apart := false, narrowed := true }
def SlotRunsUptoSaid : Prop := slotRunsUptoRow.holds Try.pinned (OpenSpec.upto slotRunsSpec)

/-- 'falseworklaw11.SlotTorn', WHERE WHAT IT READS IS OF BULK AT MOST 1048576: true; the input reads as it did. -/
def slotTornUptoRow : OpenClaim := { program := "ytpddbffamejgeaa", sum := "d78ac695ec09eb380a7ac6f9d331db6372ff7fc6456c3c174e9dfb769c8bd4c5", func := "falsework/falseworklaw11.SlotTorn", spec := "slotTorn", unfollowed := true, recurses := true, apart := false, narrowed := true }
def SlotTornUptoSaid : Prop := slotTornUptoRow.holds Try.pinned (OpenSpec.upto slotTornSpec)

/-- 'falseworklaw12.JournalFloors', WHERE WHAT IT READS IS OF BULK AT MOST 1048576: true; the input reads as it did. -/
def journalFloorsUptoRow : OpenClaim := { program := "ytpddbffamejgeaa", sum := "d78ac695ec09eb380a7ac6f9d331db6372ff7fc6456c3c174e9dfb769c8bd4c5", func := "falsework/falseworklaw12.JournalFloors", spec := "journalFloors", unfollowed := true, recurses := true, apart := false, narrowed := true }
def JournalFloorsUptoSaid : Prop := journalFloorsUptoRow.holds Try.pinned (OpenSpec.upto journalFloorsSpec)

/-- 'falseworklaw12.JournalKeeps', WHERE WHAT IT READS IS OF BULK AT MOST 1048576: true; the input reads as it did. -/
def journalKeepsUptoRow : OpenClaim := { program := "ytpddbffamejgeaa", sum := "d78ac695ec09eb380a7ac6f9d331db6372ff7fc6456c3c174e9dfb769c8bd4c5", func := "falsework/falseworklaw12.JournalKeeps", spec := "journalKeeps", unfollowed := true, recurses := true, apart := false, narrowed := true }
def JournalKeepsUptoSaid : Prop := journalKeepsUptoRow.holds Try.pinned (OpenSpec.upto journalKeepsSpec)

/-- 'falseworklaw12.JournalRuns', WHERE WHAT IT READS IS OF BULK AT MOST 1048576: true; the input reads as it did. -/
def journalRunsUptoRow : OpenClaim := { program := "ytpddbffamejgeaa", sum := "d78ac695ec09eb380a7ac6f9d331db6372ff7fc6456c3c174e9dfb769c8bd4c5", func := "falsework/falseworklaw12.JournalRuns", spec := "journalRuns", unfollowed := true, recurses := true, apart := false, narrowed := true }
def JournalRunsUptoSaid : Prop := journalRunsUptoRow.holds Try.pinned (OpenSpec.upto journalRunsSpec)

end Rows
end Go.Proofs.Ytpddbffamejgeaa
