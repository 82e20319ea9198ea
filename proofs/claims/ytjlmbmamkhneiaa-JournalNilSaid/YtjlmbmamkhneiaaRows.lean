/-
  No cell of these rows narrows 'for every input' (looked for: loops, veiled, ifaces, maps, wideKeys, modest, calm, conditions, laid).
  DERIVED. THE GIVEN ROWS OF THIS SEAT. 12 by the template 'for every input the law returns true; each argument reads behind the call as it read before'; 0 by the template 'total and deterministic' (their statements: YtjlmbmamkhneiaaTotals.lean).
  GIVEN WITH THE SEED: the statements are not yours to turn. If you find one false, say at which input.
  Laid BY PROGRAM, IN A SANDBOX (cutbox-rows.mjs): the forced cells as the released guide's own fill.sh prints them over the translation 3f09550f69833d69… (all of the seat's roots in one cut). By AI agents, Wed Nov 11 2026. No macro, syntax, notation, axiom, sorry.
-/
import Derived.Test.YtjlmbmamkhneiaaChecked
import GoSem.Claim
import GoSem.ClaimJoined
import GoSem.ClaimMapViews
import Derived.JoinedTies
import Derived.KernelRfl
namespace Go.Proofs.Ytjlmbmamkhneiaa
/- THE CELL 'sum', in the pinned program and in every row, IS THE sha256 OF THE DUMP (.gsa) THAT YtjlmbmamkhneiaaProg.lean LOADS. Nothing in Lean hashes anything: it is a label: what it is worth is what the hold of that sum in a sandbox is worth. -/
noncomputable def Try.pinned : Pinned := { name := "ytjlmbmamkhneiaa", sum := "3f09550f69833d69c170c468717525bfc834e1e403449ea3f02f92a0c64be7ce", checked := Try.checked }
namespace Rows
def none {H : Type} : Left H := { results := [], args := [] }

/-- 'ostiarylaw09.BlockTorn': WHATEVER THE INPUT: true; the input reads as it did. -/
def blockTornSpec : ChangeSpec := { name := "blockTorn", fn := fun _ => fun
  | [d1, d2, d3] => { results := [.lit (.bool true)], args := [d1, d2, d3] }
  | _ => none }
def blockTornRow : OpenClaim := { program := "ytjlmbmamkhneiaa", sum := "3f09550f69833d69c170c468717525bfc834e1e403449ea3f02f92a0c64be7ce", func := "ostiary/ostiarylaw09.BlockTorn", spec := "blockTorn", apart := false }
def BlockTornSaid : Prop := blockTornRow.holds Try.pinned (OpenSpec.ofChange blockTornSpec)

/-- ITS FALSE NEIGHBOUR: 'it returns false'. Refute it at one input. -/
def blockTornWrong : ChangeSpec := { name := "blockTorn", fn := fun _ => fun
  | [d1, d2, d3] => { results := [.lit (.bool false)], args := [d1, d2, d3] }
  | _ => none }
def BlockTornWrongFalsely : Prop := blockTornRow.holds Try.pinned (OpenSpec.ofChange blockTornWrong)

/-- 'ostiarylaw09.BlockLasts': WHATEVER THE INPUT: true; the input reads as it did. -/
def blockLastsSpec : ChangeSpec := { name := "blockLasts", fn := fun _ => fun
  | [d1, d2] => { results := [.lit (.bool true)], args := [d1, d2] }
  | _ => none }
def blockLastsRow : OpenClaim := { program := "ytjlmbmamkhneiaa", sum := "3f09550f69833d69c170c468717525bfc834e1e403449ea3f02f92a0c64be7ce", func := "ostiary/ostiarylaw09.BlockLasts", spec := "blockLasts", apart := false }
def BlockLastsSaid : Prop := blockLastsRow.holds Try.pinned (OpenSpec.ofChange blockLastsSpec)

/-- ITS FALSE NEIGHBOUR: 'it returns false'. Refute it at one input. -/
def blockLastsWrong : ChangeSpec := { name := "blockLasts", fn := fun _ => fun
  | [d1, d2] => { results := [.lit (.bool false)], args := [d1, d2] }
  | _ => none }
def BlockLastsWrongFalsely : Prop := blockLastsRow.holds Try.pinned (OpenSpec.ofChange blockLastsWrong)

/-- 'ostiarylaw09.BlockArm': WHATEVER THE INPUT: true; the input reads as it did. -/
def blockArmSpec : ChangeSpec := { name := "blockArm", fn := fun _ => fun
  | [d1, d2] => { results := [.lit (.bool true)], args := [d1, d2] }
  | _ => none }
def blockArmRow : OpenClaim := { program := "ytjlmbmamkhneiaa", sum := "3f09550f69833d69c170c468717525bfc834e1e403449ea3f02f92a0c64be7ce", func := "ostiary/ostiarylaw09.BlockArm", spec := "blockArm", apart := false }
def BlockArmSaid : Prop := blockArmRow.holds Try.pinned (OpenSpec.ofChange blockArmSpec)

/-- ITS FALSE NEIGHBOUR: 'it returns false'. Refute it at one input. -/
def blockArmWrong : ChangeSpec := { name := "blockArm", fn := fun _ => fun
  | [d1, d2] => { results := [.lit (.bool false)], args := [d1, d2] }
  | _ => none }
def BlockArmWrongFalsely : Prop := blockArmRow.holds Try.pinned (OpenSpec.ofChange blockArmWrong)

/-- 'ostiarylaw09.BlockPlays': WHATEVER THE INPUT: true; the input reads as it did. -/
def blockPlaysSpec : ChangeSpec := { name := "blockPlays", fn := fun _ => fun
  | [d1, d2] => { results := [.lit (.bool true)], args := [d1, d2] }
  | _ => none }
def blockPlaysRow : OpenClaim := { program := "ytjlmbmamkhneiaa", sum := "3f09550f69833d69c170c468717525bfc834e1e403449ea3f02f92a0c64be7ce", func := "ostiary/ostiarylaw09.BlockPlays", spec := "blockPlays", apart := false }
def BlockPlaysSaid : Prop := blockPlaysRow.holds Try.pinned (OpenSpec.ofChange blockPlaysSpec)

/-- ITS FALSE NEIGHBOUR: 'it returns false'. Refute it at one input. -/
def blockPlaysWrong : ChangeSpec := { name := "blockPlays", fn := fun _ => fun
  | [d1, d2] => { results := [.lit (.bool false)], args := [d1, d2] }
  | _ => none }
def BlockPlaysWrongFalsely : Prop := blockPlaysRow.holds Try.pinned (OpenSpec.ofChange blockPlaysWrong)

/-- 'ostiarylaw09.BlockNil': WHATEVER THE INPUT: true; the input reads as it did. -/
def blockNilSpec : ChangeSpec := { name := "blockNil", fn := fun _ => fun
  | [d1, d2] => { results := [.lit (.bool true)], args := [d1, d2] }
  | _ => none }
def blockNilRow : OpenClaim := { program := "ytjlmbmamkhneiaa", sum := "3f09550f69833d69c170c468717525bfc834e1e403449ea3f02f92a0c64be7ce", func := "ostiary/ostiarylaw09.BlockNil", spec := "blockNil", apart := false }
def BlockNilSaid : Prop := blockNilRow.holds Try.pinned (OpenSpec.ofChange blockNilSpec)

/-- ITS FALSE NEIGHBOUR: 'it returns false'. Refute it at one input. -/
def blockNilWrong : ChangeSpec := { name := "blockNil", fn := fun _ => fun
  | [d1, d2] => { results := [.lit (.bool false)], args := [d1, d2] }
  | _ => none }
def BlockNilWrongFalsely : Prop := blockNilRow.holds Try.pinned (OpenSpec.ofChange blockNilWrong)

/-- 'ostiarylaw10.JournalNeed': WHATEVER THE INPUT: true; the input reads as it did. -/
def journalNeedSpec : ChangeSpec := { name := "journalNeed", fn := fun _ => fun
  | [d] => { results := [.lit (.bool true)], args := [d] }
  | _ => none }
def journalNeedRow : OpenClaim := { program := "ytjlmbmamkhneiaa", sum := "3f09550f69833d69c170c468717525bfc834e1e403449ea3f02f92a0c64be7ce", func := "ostiary/ostiarylaw10.JournalNeed", spec := "journalNeed", apart := false }
def JournalNeedSaid : Prop := journalNeedRow.holds Try.pinned (OpenSpec.ofChange journalNeedSpec)

/-- ITS FALSE NEIGHBOUR: 'it returns false'. Refute it at one input. -/
def journalNeedWrong : ChangeSpec := { name := "journalNeed", fn := fun _ => fun
  | [d] => { results := [.lit (.bool false)], args := [d] }
  | _ => none }
def JournalNeedWrongFalsely : Prop := journalNeedRow.holds Try.pinned (OpenSpec.ofChange journalNeedWrong)

/-- 'ostiarylaw10.JournalRoom': WHATEVER THE INPUT: true; the input reads as it did. -/
def journalRoomSpec : ChangeSpec := { name := "journalRoom", fn := fun _ => fun
  | [d1, d2] => { results := [.lit (.bool true)], args := [d1, d2] }
  | _ => none }
def journalRoomRow : OpenClaim := { program := "ytjlmbmamkhneiaa", sum := "3f09550f69833d69c170c468717525bfc834e1e403449ea3f02f92a0c64be7ce", func := "ostiary/ostiarylaw10.JournalRoom", spec := "journalRoom", apart := false }
def JournalRoomSaid : Prop := journalRoomRow.holds Try.pinned (OpenSpec.ofChange journalRoomSpec)

/-- ITS FALSE NEIGHBOUR: 'it returns false'. Refute it at one input. -/
def journalRoomWrong : ChangeSpec := { name := "journalRoom", fn := fun _ => fun
  | [d1, d2] => { results := [.lit (.bool false)], args := [d1, d2] }
  | _ => none }
def JournalRoomWrongFalsely : Prop := journalRoomRow.holds Try.pinned (OpenSpec.ofChange journalRoomWrong)

/-- 'ostiarylaw10.JournalNil': WHATEVER THE INPUT: true; the input reads as it did. -/
def journalNilSpec : ChangeSpec := { name := "journalNil", fn := fun _ => fun
  | [d] => { results := [.lit (.bool true)], args := [d] }
  | _ => none }
def journalNilRow : OpenClaim := { program := "ytjlmbmamkhneiaa", sum := "3f09550f69833d69c170c468717525bfc834e1e403449ea3f02f92a0c64be7ce", func := "ostiary/ostiarylaw10.JournalNil", spec := "journalNil", apart := false }
def JournalNilSaid : Prop := journalNilRow.holds Try.pinned (OpenSpec.ofChange journalNilSpec)

/-- ITS FALSE NEIGHBOUR: 'it returns false'. Refute it at one input. -/
def journalNilWrong : ChangeSpec := { name := "journalNil", fn := fun _ => fun
  | [d] => { results := [.lit (.bool false)], args := [d] }
  | _ => none }
def JournalNilWrongFalsely : Prop := journalNilRow.holds Try.pinned (OpenSpec.ofChange journalNilWrong)

/-- 'ostiarylaw04.HubTold': WHATEVER THE INPUT: true; the input reads as it did. -/
def hubToldSpec : ChangeSpec := { name := "hubTold", fn := fun _ => fun
  | [d1, d2, d3] => { results := [.lit (.bool true)], args := [d1, d2, d3] }
  | _ => none }
def hubToldRow : OpenClaim := { program := "ytjlmbmamkhneiaa", sum := "3f09550f69833d69c170c468717525bfc834e1e403449ea3f02f92a0c64be7ce", func := "ostiary/ostiarylaw04.HubTold", spec := "hubTold", apart := false }
def HubToldSaid : Prop := hubToldRow.holds Try.pinned (OpenSpec.ofChange hubToldSpec)

/-- ITS FALSE NEIGHBOUR: 'it returns false'. Refute it at one input. -/
def hubToldWrong : ChangeSpec := { name := "hubTold", fn := fun _ => fun
  | [d1, d2, d3] => { results := [.lit (.bool false)], args := [d1, d2, d3] }
  | _ => none }
def HubToldWrongFalsely : Prop := hubToldRow.holds Try.pinned (OpenSpec.ofChange hubToldWrong)

/-- 'ostiarylaw04.HubShut': WHATEVER THE INPUT: true; the input reads as it did. -/
def hubShutSpec : ChangeSpec := { name := "hubShut", fn := fun _ => fun
  | [d1, d2, d3] => { results := [.lit (.bool true)], args := [d1, d2, d3] }
  | _ => none }
def hubShutRow : OpenClaim := { program := "ytjlmbmamkhneiaa", sum := "3f09550f69833d69c170c468717525bfc834e1e403449ea3f02f92a0c64be7ce", func := "ostiary/ostiarylaw04.HubShut", spec := "hubShut", apart := false }
def HubShutSaid : Prop := hubShutRow.holds Try.pinned (OpenSpec.ofChange hubShutSpec)

/-- ITS FALSE NEIGHBOUR: 'it returns false'. Refute it at one input. -/
def hubShutWrong : ChangeSpec := { name := "hubShut", fn := fun _ => fun
  | [d1, d2, d3] => { results := [.lit (.bool false)], args := [d1, d2, d3] }
  | _ => none }
def HubShutWrongFalsely : Prop := hubShutRow.holds Try.pinned (OpenSpec.ofChange hubShutWrong)

/-- 'ostiarylaw04.HubPlays': WHATEVER THE INPUT: true; the input reads as it did. -/
def hubPlaysSpec : ChangeSpec := { name := "hubPlays", fn := fun _ => fun
  | [d1, d2] => { results := [.lit (.bool true)], args := [d1, d2] }
  | _ => none }
def hubPlaysRow : OpenClaim := { program := "ytjlmbmamkhneiaa", sum := "3f09550f69833d69c170c468717525bfc834e1e403449ea3f02f92a0c64be7ce", func := "ostiary/ostiarylaw04.HubPlays", spec := "hubPlays", apart := false }
def HubPlaysSaid : Prop := hubPlaysRow.holds Try.pinned (OpenSpec.ofChange hubPlaysSpec)

/-- ITS FALSE NEIGHBOUR: 'it returns false'. Refute it at one input. -/
def hubPlaysWrong : ChangeSpec := { name := "hubPlays", fn := fun _ => fun
  | [d1, d2] => { results := [.lit (.bool false)], args := [d1, d2] }
  | _ => none }
def HubPlaysWrongFalsely : Prop := hubPlaysRow.holds Try.pinned (OpenSpec.ofChange hubPlaysWrong)

/-- 'ostiarylaw04.HubNil': WHATEVER THE INPUT: true; the input reads as it did. -/
def hubNilSpec : ChangeSpec := { name := "hubNil", fn := fun _ => fun
  | [d] => { results := [.lit (.bool true)], args := [d] }
  | _ => none }
def hubNilRow : OpenClaim := { program := "ytjlmbmamkhneiaa", sum := "3f09550f69833d69c170c468717525bfc834e1e403449ea3f02f92a0c64be7ce", func := "ostiary/ostiarylaw04.HubNil", spec := "hubNil", apart := false }
def HubNilSaid : Prop := hubNilRow.holds Try.pinned (OpenSpec.ofChange hubNilSpec)

/-- ITS FALSE NEIGHBOUR: 'it returns false'. Refute it at one input. -/
def hubNilWrong : ChangeSpec := { name := "hubNil", fn := fun _ => fun
  | [d] => { results := [.lit (.bool false)], args := [d] }
  | _ => none }
def HubNilWrongFalsely : Prop := hubNilRow.holds Try.pinned (OpenSpec.ofChange hubNilWrong)

/- THE SECOND FORM. 'bulk': how many values and letters a reading holds, each counted each time it is reached (what is shared counts as often as it is met; a slice's spare places count too). A statement '..UptoSaid' is the law's where the arguments, and the package variables that the reading takes, are together of bulk at most 1048576: NARROWER than '..Said'. Prove '..Said' where nothing that the law and all that it calls make is longer than what came in: it says more and counts as full. Else prove '..UptoSaid'. A law counts once. -/
mutual
def uptoBulk {H : Type} : DataW H → Nat
  | .lit (.string bytes) => bytes.length + 1
  | .lit _ => 1
  | .nil => 1
  | .ptr d => uptoBulk d + 1
  | .slice elems spare => uptoBulkAll elems + uptoBulkAll spare + 1
  | .agg parts => uptoBulkAll parts + 1
  | .iface _ d => uptoBulk d + 1
  | .map entries => uptoBulkEntries entries + 1
  | .held _ => 1
def uptoBulkAll {H : Type} : List (DataW H) → Nat
  | [] => 0
  | d :: r => uptoBulk d + uptoBulkAll r
def uptoBulkEntries {H : Type} : List (Lit × DataW H) → Nat
  | [] => 0
  | x :: r => uptoBulkEntry x + uptoBulkEntries r
def uptoBulkEntry {H : Type} : Lit × DataW H → Nat
  | (.string bytes, d) => bytes.length + uptoBulk d + 1
  | (_, d) => uptoBulk d + 1
 end
def uptoSmall : (H : Type) → List (DataW H) → Bool := fun _ ds => decide (uptoBulkAll ds ≤ 1048576)
def OpenSpec.upto (s : _root_.Go.ChangeSpec) : _root_.Go.OpenSpec := { _root_.Go.OpenSpec.ofChange s with cond := some uptoSmall }

/-- 'ostiarylaw09.BlockTorn', WHERE WHAT IT READS IS OF BULK AT MOST 1048576: true; the input reads as it did. -/
def blockTornUptoRow : OpenClaim := { program := "ytjlmbmamkhneiaa", sum := "3f09550f69833d69c170c468717525bfc834e1e403449ea3f02f92a0c64be7ce", func := "ostiary/ostiarylaw09.BlockTorn", spec := "blockTorn", apart := false, narrowed := true }
def BlockTornUptoSaid : Prop := blockTornUptoRow.holds Try.pinned (OpenSpec.upto blockTornSpec)

/-- 'ostiarylaw09.BlockLasts', WHERE WHAT IT READS IS OF BULK AT MOST 1048576: true; the input reads as it did. -/
def blockLastsUptoRow : OpenClaim := { program := "ytjlmbmamkhneiaa", sum := "3f09550f69833d69c170c468717525bfc834e1e403449ea3f02f92a0c64be7ce", func := "ostiary/ostiarylaw09.BlockLasts", spec := "blockLasts", apart := false, narrowed := true }
def BlockLastsUptoSaid : Prop := blockLastsUptoRow.holds Try.pinned (OpenSpec.upto blockLastsSpec)

/-- 'ostiarylaw09.BlockArm', WHERE WHAT IT READS IS OF BULK AT MOST 1048576: true; the input reads as it did. -/
def blockArmUptoRow : OpenClaim := { program := "ytjlmbmamkhneiaa", sum := "3f09550f69833d69c170c468717525bfc834e1e403449ea3f02f92a0c64be7ce", func := "ostiary/ostiarylaw09.BlockArm", spec := "blockArm", apart := false, narrowed := true }
def BlockArmUptoSaid : Prop := blockArmUptoRow.holds Try.pinned (OpenSpec.upto blockArmSpec)

/-- 'ostiarylaw09.BlockPlays', WHERE WHAT IT READS IS OF BULK AT MOST 1048576: true; the input reads as it did. -/
def blockPlaysUptoRow : OpenClaim := { program := "ytjlmbmamkhneiaa", sum := "3f09550f69833d69c170c468717525bfc834e1e403449ea3f02f92a0c64be7ce", func := "ostiary/ostiarylaw09.BlockPlays", spec := "blockPlays", apart := false, narrowed := true }
def BlockPlaysUptoSaid : Prop := blockPlaysUptoRow.holds Try.pinned (OpenSpec.upto blockPlaysSpec)

/-- 'ostiarylaw09.BlockNil', WHERE WHAT IT READS IS OF BULK AT MOST 1048576: true; the input reads as it did. -/
def blockNilUptoRow : OpenClaim := { program := "ytjlmbmamkhneiaa", sum := "3f09550f69833d69c170c468717525bfc834e1e403449ea3f02f92a0c64be7ce", func := "ostiary/ostiarylaw09.BlockNil", spec := "blockNil", apart := false, narrowed := true }
def BlockNilUptoSaid : Prop := blockNilUptoRow.holds Try.pinned (OpenSpec.upto blockNilSpec)

/-- 'ostiarylaw10.JournalNeed', WHERE WHAT IT READS IS OF BULK AT MOST 1048576: true; the input reads as it did. -/
def journalNeedUptoRow : OpenClaim := { program := "ytjlmbmamkhneiaa", sum := "3f09550f69833d69c170c468717525bfc834e1e403449ea3f02f92a0c64be7ce", func := "ostiary/ostiarylaw10.JournalNeed", spec := "journalNeed", apart := false, narrowed := true }
def JournalNeedUptoSaid : Prop := journalNeedUptoRow.holds Try.pinned (OpenSpec.upto journalNeedSpec)

/-- 'ostiarylaw10.JournalRoom', WHERE WHAT IT READS IS OF BULK AT MOST 1048576: true; the input reads as it did. -/
def journalRoomUptoRow : OpenClaim := { program := "ytjlmbmamkhneiaa", sum := "3f09550f69833d69c170c468717525bfc834e1e403449ea3f02f92a0c64be7ce", func := "ostiary/ostiarylaw10.JournalRoom", spec := "journalRoom", apart := false, narrowed := true }
def JournalRoomUptoSaid : Prop := journalRoomUptoRow.holds Try.pinned (OpenSpec.upto journalRoomSpec)

/-- 'ostiarylaw10.JournalNil', WHERE WHAT IT READS IS OF BULK AT MOST 1048576: true; the input reads as it did. -/
def journalNilUptoRow : OpenClaim := { program := "ytjlmbmamkhneiaa", sum := "3f09550f69833d69c170c468717525bfc834e1e403449ea3f02f92a0c64be7ce", func := "ostiary/ostiarylaw10.JournalNil", spec := "journalNil", apart := false, narrowed := true }
def JournalNilUptoSaid : Prop := journalNilUptoRow.holds Try.pinned (OpenSpec.upto journalNilSpec)

/-- 'ostiarylaw04.HubTold', WHERE WHAT IT READS IS OF BULK AT MOST 1048576: true; the input reads as it did. -/
def hubToldUptoRow : OpenClaim := { program := "ytjlmbmamkhneiaa", sum := "3f09550f69833d69c170c468717525bfc834e1e403449ea3f02f92a0c64be7ce", func := "ostiary/ostiarylaw04.HubTold", spec := "hubTold", apart := false, narrowed := true }
def HubToldUptoSaid : Prop := hubToldUptoRow.holds Try.pinned (OpenSpec.upto hubToldSpec)

/-- 'ostiarylaw04.HubShut', WHERE WHAT IT READS IS OF BULK AT MOST 1048576: true; the input reads as it did. -/
def hubShutUptoRow : OpenClaim := { program := "ytjlmbmamkhneiaa", sum := "3f09550f69833d69c170c468717525bfc834e1e403449ea3f02f92a0c64be7ce", func := "ostiary/ostiarylaw04.HubShut", spec := "hubShut", apart := false, narrowed := true }
def HubShutUptoSaid : Prop := hubShutUptoRow.holds Try.pinned (OpenSpec.upto hubShutSpec)

/-- 'ostiarylaw04.HubPlays', WHERE WHAT IT READS IS OF BULK AT MOST 1048576: true; the input reads as it did. -/
def hubPlaysUptoRow : OpenClaim := { program := "ytjlmbmamkhneiaa", sum := "3f09550f69833d69c170c468717525bfc834e1e403449ea3f02f92a0c64be7ce", func := "ostiary/ostiarylaw04.HubPlays", spec := "hubPlays", apart := false, narrowed := true }
def HubPlaysUptoSaid : Prop := hubPlaysUptoRow.holds Try.pinned (OpenSpec.upto hubPlaysSpec)

/-- 'ostiarylaw04.HubNil', WHERE WHAT IT READS IS OF BULK AT MOST 1048576: true; the input reads as it did. -/
def hubNilUptoRow : OpenClaim := { program := "ytjlmbmamkhneiaa", sum := "3f09550f69833d69c170c468717525bfc834e1e403449ea3f02f92a0c64be7ce", func := "ostiary/ostiarylaw04.HubNil", spec := "hubNil", apart := false, narrowed := true }
def HubNilUptoSaid : Prop := hubNilUptoRow.holds Try.pinned (OpenSpec.upto hubNilSpec)

end Rows
end Go.Proofs.Ytjlmbmamkhneiaa
