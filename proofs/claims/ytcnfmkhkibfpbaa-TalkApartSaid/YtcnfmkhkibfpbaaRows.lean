/-
  No cell of these rows narrows 'for every input' (looked for: loops, veiled, ifaces, maps, wideKeys, modest, calm, conditions, laid).
  DERIVED. THE GIVEN ROWS OF THIS SEAT. 9 by the template 'for every input the law returns true; each argument reads behind the call as it read before'; 0 by the template 'total and deterministic' (their statements: YtcnfmkhkibfpbaaTotals.lean).
  GIVEN WITH THE SEED: the statements are not yours to turn. If you find one false, say at which input.
  Laid BY PROGRAM, IN A SANDBOX (cutbox-rows.mjs): the forced cells as the released guide's own fill.sh prints them over the translation d3ced3ef23ddaf70… (all of the seat's roots in one cut). By AI agents, Wed Nov 11 2026. No macro, syntax, notation, axiom, sorry.
-/
import Derived.Test.YtcnfmkhkibfpbaaChecked
import GoSem.Claim
import GoSem.ClaimJoined
import GoSem.ClaimMapViews
import Derived.JoinedTies
import Derived.KernelRfl
namespace Go.Proofs.Ytcnfmkhkibfpbaa
/- THE CELL 'sum', in the pinned program and in every row, IS THE sha256 OF THE DUMP (.gsa) THAT YtcnfmkhkibfpbaaProg.lean LOADS. Nothing in Lean hashes anything: it is a label: what it is worth is what the hold of that sum in a sandbox is worth. -/
noncomputable def Try.pinned : Pinned := { name := "ytcnfmkhkibfpbaa", sum := "d3ced3ef23ddaf700f6e076b06cafe6e9a050f664dc5297b57d2de4355490912", checked := Try.checked }
namespace Rows
def none {H : Type} : Left H := { results := [], args := [] }

/-- 'ostiarylaw03.SumNet': WHATEVER THE INPUT: true; the input reads as it did. -/
def sumNetSpec : ChangeSpec := { name := "sumNet", fn := fun _ => fun
  | [d] => { results := [.lit (.bool true)], args := [d] }
  | _ => none }
def sumNetRow : OpenClaim := { program := "ytcnfmkhkibfpbaa", sum := "d3ced3ef23ddaf700f6e076b06cafe6e9a050f664dc5297b57d2de4355490912", func := "ostiary/ostiarylaw03.SumNet", spec := "sumNet", apart := false }
def SumNetSaid : Prop := sumNetRow.holds Try.pinned (OpenSpec.ofChange sumNetSpec)

/-- ITS FALSE NEIGHBOUR: 'it returns false'. Refute it at one input. -/
def sumNetWrong : ChangeSpec := { name := "sumNet", fn := fun _ => fun
  | [d] => { results := [.lit (.bool false)], args := [d] }
  | _ => none }
def SumNetWrongFalsely : Prop := sumNetRow.holds Try.pinned (OpenSpec.ofChange sumNetWrong)

/-- 'ostiarylaw03.SumCrc': WHATEVER THE INPUT: true; the input reads as it did. -/
def sumCrcSpec : ChangeSpec := { name := "sumCrc", fn := fun _ => fun
  | [d] => { results := [.lit (.bool true)], args := [d] }
  | _ => none }
def sumCrcRow : OpenClaim := { program := "ytcnfmkhkibfpbaa", sum := "d3ced3ef23ddaf700f6e076b06cafe6e9a050f664dc5297b57d2de4355490912", func := "ostiary/ostiarylaw03.SumCrc", spec := "sumCrc", apart := false }
def SumCrcSaid : Prop := sumCrcRow.holds Try.pinned (OpenSpec.ofChange sumCrcSpec)

/-- ITS FALSE NEIGHBOUR: 'it returns false'. Refute it at one input. -/
def sumCrcWrong : ChangeSpec := { name := "sumCrc", fn := fun _ => fun
  | [d] => { results := [.lit (.bool false)], args := [d] }
  | _ => none }
def SumCrcWrongFalsely : Prop := sumCrcRow.holds Try.pinned (OpenSpec.ofChange sumCrcWrong)

/-- 'ostiarylaw03.SumTag': WHATEVER THE INPUT: true; the input reads as it did. -/
def sumTagSpec : ChangeSpec := { name := "sumTag", fn := fun _ => fun
  | [d1, d2, d3] => { results := [.lit (.bool true)], args := [d1, d2, d3] }
  | _ => none }
def sumTagRow : OpenClaim := { program := "ytcnfmkhkibfpbaa", sum := "d3ced3ef23ddaf700f6e076b06cafe6e9a050f664dc5297b57d2de4355490912", func := "ostiary/ostiarylaw03.SumTag", spec := "sumTag", apart := false }
def SumTagSaid : Prop := sumTagRow.holds Try.pinned (OpenSpec.ofChange sumTagSpec)

/-- ITS FALSE NEIGHBOUR: 'it returns false'. Refute it at one input. -/
def sumTagWrong : ChangeSpec := { name := "sumTag", fn := fun _ => fun
  | [d1, d2, d3] => { results := [.lit (.bool false)], args := [d1, d2, d3] }
  | _ => none }
def SumTagWrongFalsely : Prop := sumTagRow.holds Try.pinned (OpenSpec.ofChange sumTagWrong)

/-- 'ostiarylaw03.SumParts': WHATEVER THE INPUT: true; the input reads as it did. -/
def sumPartsSpec : ChangeSpec := { name := "sumParts", fn := fun _ => fun
  | [d1, d2, d3, d4, d5] => { results := [.lit (.bool true)], args := [d1, d2, d3, d4, d5] }
  | _ => none }
def sumPartsRow : OpenClaim := { program := "ytcnfmkhkibfpbaa", sum := "d3ced3ef23ddaf700f6e076b06cafe6e9a050f664dc5297b57d2de4355490912", func := "ostiary/ostiarylaw03.SumParts", spec := "sumParts", apart := false }
def SumPartsSaid : Prop := sumPartsRow.holds Try.pinned (OpenSpec.ofChange sumPartsSpec)

/-- ITS FALSE NEIGHBOUR: 'it returns false'. Refute it at one input. -/
def sumPartsWrong : ChangeSpec := { name := "sumParts", fn := fun _ => fun
  | [d1, d2, d3, d4, d5] => { results := [.lit (.bool false)], args := [d1, d2, d3, d4, d5] }
  | _ => none }
def SumPartsWrongFalsely : Prop := sumPartsRow.holds Try.pinned (OpenSpec.ofChange sumPartsWrong)

/-- 'ostiarylaw03.SumBit': WHATEVER THE INPUT: true; the input reads as it did. -/
def sumBitSpec : ChangeSpec := { name := "sumBit", fn := fun _ => fun
  | [d1, d2] => { results := [.lit (.bool true)], args := [d1, d2] }
  | _ => none }
def sumBitRow : OpenClaim := { program := "ytcnfmkhkibfpbaa", sum := "d3ced3ef23ddaf700f6e076b06cafe6e9a050f664dc5297b57d2de4355490912", func := "ostiary/ostiarylaw03.SumBit", spec := "sumBit", apart := false }
def SumBitSaid : Prop := sumBitRow.holds Try.pinned (OpenSpec.ofChange sumBitSpec)

/-- ITS FALSE NEIGHBOUR: 'it returns false'. Refute it at one input. -/
def sumBitWrong : ChangeSpec := { name := "sumBit", fn := fun _ => fun
  | [d1, d2] => { results := [.lit (.bool false)], args := [d1, d2] }
  | _ => none }
def SumBitWrongFalsely : Prop := sumBitRow.holds Try.pinned (OpenSpec.ofChange sumBitWrong)

/-- 'ostiarylaw03.SumZero': WHATEVER THE INPUT: true; the input reads as it did. -/
def sumZeroSpec : ChangeSpec := { name := "sumZero", fn := fun _ => fun
  | [d1, d2] => { results := [.lit (.bool true)], args := [d1, d2] }
  | _ => none }
def sumZeroRow : OpenClaim := { program := "ytcnfmkhkibfpbaa", sum := "d3ced3ef23ddaf700f6e076b06cafe6e9a050f664dc5297b57d2de4355490912", func := "ostiary/ostiarylaw03.SumZero", spec := "sumZero", apart := false }
def SumZeroSaid : Prop := sumZeroRow.holds Try.pinned (OpenSpec.ofChange sumZeroSpec)

/-- ITS FALSE NEIGHBOUR: 'it returns false'. Refute it at one input. -/
def sumZeroWrong : ChangeSpec := { name := "sumZero", fn := fun _ => fun
  | [d1, d2] => { results := [.lit (.bool false)], args := [d1, d2] }
  | _ => none }
def SumZeroWrongFalsely : Prop := sumZeroRow.holds Try.pinned (OpenSpec.ofChange sumZeroWrong)

/-- 'ostiarylaw07.TalkApart': WHATEVER THE INPUT: true; the input reads as it did. -/
def talkApartSpec : ChangeSpec := { name := "talkApart", fn := fun _ => fun
  | [d1, d2] => { results := [.lit (.bool true)], args := [d1, d2] }
  | _ => none }
def talkApartRow : OpenClaim := { program := "ytcnfmkhkibfpbaa", sum := "d3ced3ef23ddaf700f6e076b06cafe6e9a050f664dc5297b57d2de4355490912", func := "ostiary/ostiarylaw07.TalkApart", spec := "talkApart", apart := false }
def TalkApartSaid : Prop := talkApartRow.holds Try.pinned (OpenSpec.ofChange talkApartSpec)

/-- ITS FALSE NEIGHBOUR: 'it returns false'. Refute it at one input. -/
def talkApartWrong : ChangeSpec := { name := "talkApart", fn := fun _ => fun
  | [d1, d2] => { results := [.lit (.bool false)], args := [d1, d2] }
  | _ => none }
def TalkApartWrongFalsely : Prop := talkApartRow.holds Try.pinned (OpenSpec.ofChange talkApartWrong)

/-- 'ostiarylaw07.TalkName': WHATEVER THE INPUT: true; the input reads as it did. -/
def talkNameSpec : ChangeSpec := { name := "talkName", fn := fun _ => fun
  | [d] => { results := [.lit (.bool true)], args := [d] }
  | _ => none }
def talkNameRow : OpenClaim := { program := "ytcnfmkhkibfpbaa", sum := "d3ced3ef23ddaf700f6e076b06cafe6e9a050f664dc5297b57d2de4355490912", func := "ostiary/ostiarylaw07.TalkName", spec := "talkName", apart := false }
def TalkNameSaid : Prop := talkNameRow.holds Try.pinned (OpenSpec.ofChange talkNameSpec)

/-- ITS FALSE NEIGHBOUR: 'it returns false'. Refute it at one input. -/
def talkNameWrong : ChangeSpec := { name := "talkName", fn := fun _ => fun
  | [d] => { results := [.lit (.bool false)], args := [d] }
  | _ => none }
def TalkNameWrongFalsely : Prop := talkNameRow.holds Try.pinned (OpenSpec.ofChange talkNameWrong)

/-- 'ostiarylaw07.TalkProof': WHATEVER THE INPUT: true; the input reads as it did. -/
def talkProofSpec : ChangeSpec := { name := "talkProof", fn := fun _ => fun
  | [d1, d2, d3, d4, d5, d6, d7] => { results := [.lit (.bool true)], args := [d1, d2, d3, d4, d5, d6, d7] }
  | _ => none }
def talkProofRow : OpenClaim := { program := "ytcnfmkhkibfpbaa", sum := "d3ced3ef23ddaf700f6e076b06cafe6e9a050f664dc5297b57d2de4355490912", func := "ostiary/ostiarylaw07.TalkProof", spec := "talkProof", apart := false }
def TalkProofSaid : Prop := talkProofRow.holds Try.pinned (OpenSpec.ofChange talkProofSpec)

/-- ITS FALSE NEIGHBOUR: 'it returns false'. Refute it at one input. -/
def talkProofWrong : ChangeSpec := { name := "talkProof", fn := fun _ => fun
  | [d1, d2, d3, d4, d5, d6, d7] => { results := [.lit (.bool false)], args := [d1, d2, d3, d4, d5, d6, d7] }
  | _ => none }
def TalkProofWrongFalsely : Prop := talkProofRow.holds Try.pinned (OpenSpec.ofChange talkProofWrong)

/- THE SECOND FORM. 'bulk': how many values and letters a reading holds, each counted each time it is reached (what is shared counts as often as it is met; a slice's spare places count too). A statement '..UptoSaid' is the law's where the arguments, and the package variables that the reading takes, are together of bulk at most 1048576: NARROWER than '..Said'. Prove '..Said' where nothing that the law and all that it calls make is longer than what came in: it says more and counts as full. Else prove '..UptoSaid'. A law counts once. -/
mutual
def uptoBulk {H : Type} : DataW H → Nat
  | .lit (.string bytes) => bytes.length + 1
  | .lit _ => 1
  | .nil => 1
  | .ptr d => uptoBulk d + 1
  | .slice elems spare => uptoBulkAll elems + uptoBulkAll spare + 1
  | .agg parts => uptoBulkAll parts + 1
  | .iface _ d => uptoBulk d + 1
  | .map entries => uptoBulkEntries entries + 1
  | .held _ => 1
def uptoBulkAll {H : Type} : List (DataW H) → Nat
  | [] => 0
  | d :: r => uptoBulk d + uptoBulkAll r
def uptoBulkEntries {H : Type} : List (Lit × DataW H) → Nat
  | [] => 0
  | x :: r => uptoBulkEntry x + uptoBulkEntries r
def uptoBulkEntry {H : Type} : Lit × DataW H → Nat
  | (.string bytes, d) => bytes.length + uptoBulk d + 1
  | (_, d) => uptoBulk d + 1
 end
def uptoSmall : (H : Type) → List (DataW H) → Bool := fun _ ds => decide (uptoBulkAll ds ≤ 1048576)
def OpenSpec.upto (s : _root_.Go.ChangeSpec) : _root_.Go.OpenSpec := { _root_.Go.OpenSpec.ofChange s with cond := some uptoSmall }

/-- 'ostiarylaw03.SumNet', WHERE WHAT IT READS IS OF BULK AT MOST 1048576: true; the input reads as it did. -/
def sumNetUptoRow : OpenClaim := { program := "ytcnfmkhkibfpbaa", sum := "d3ced3ef23ddaf700f6e076b06cafe6e9a050f664dc5297b57d2de4355490912", func := "ostiary/ostiarylaw03.SumNet", spec := "sumNet", apart := false, narrowed := true }
def SumNetUptoSaid : Prop := sumNetUptoRow.holds Try.pinned (OpenSpec.upto sumNetSpec)

/-- 'ostiarylaw03.SumCrc', WHERE WHAT IT READS IS OF BULK AT MOST 1048576: true; the input reads as it did. -/
def sumCrcUptoRow : OpenClaim := { program := "ytcnfmkhkibfpbaa", sum := "d3ced3ef23ddaf700f6e076b06cafe6e9a050f664dc5297b57d2de4355490912", func := "ostiary/ostiarylaw03.SumCrc", spec := "sumCrc", apart := false, narrowed := true }
def SumCrcUptoSaid : Prop := sumCrcUptoRow.holds Try.pinned (OpenSpec.upto sumCrcSpec)

/-- 'ostiarylaw03.SumTag', WHERE WHAT IT READS IS OF BULK AT MOST 1048576: true; the input reads as it did. -/
def sumTagUptoRow : OpenClaim := { program := "ytcnfmkhkibfpbaa", sum := "d3ced3ef23ddaf700f6e076b06cafe6e9a050f664dc5297b57d2de4355490912", func := "ostiary/ostiarylaw03.SumTag", spec := "sumTag", apart := false, narrowed := true }
def SumTagUptoSaid : Prop := sumTagUptoRow.holds Try.pinned (OpenSpec.upto sumTagSpec)

/-- 'ostiarylaw03.SumParts', WHERE WHAT IT READS IS OF BULK AT MOST 1048576: true; the input reads as it did. -/
def sumPartsUptoRow : OpenClaim := { program := "ytcnfmkhkibfpbaa", sum := "d3ced3ef23ddaf700f6e076b06cafe6e9a050f664dc5297b57d2de4355490912", func := "ostiary/ostiarylaw03.SumParts", spec := "sumParts", apart := false, narrowed := true }
def SumPartsUptoSaid : Prop := sumPartsUptoRow.holds Try.pinned (OpenSpec.upto sumPartsSpec)

/-- 'ostiarylaw03.SumBit', WHERE WHAT IT READS IS OF BULK AT MOST 1048576: true; the input reads as it did. -/
def sumBitUptoRow : OpenClaim := { program := "ytcnfmkhkibfpbaa", sum := "d3ced3ef23ddaf700f6e076b06cafe6e9a050f664dc5297b57d2de4355490912", func := "ostiary/ostiarylaw03.SumBit", spec := "sumBit", apart := false, narrowed := true }
def SumBitUptoSaid : Prop := sumBitUptoRow.holds Try.pinned (OpenSpec.upto sumBitSpec)

/-- 'ostiarylaw03.SumZero', WHERE WHAT IT READS IS OF BULK AT MOST 1048576: true; the input reads as it did. -/
def sumZeroUptoRow : OpenClaim := { program := "ytcnfmkhkibfpbaa", sum := "d3ced3ef23ddaf700f6e076b06cafe6e9a050f664dc5297b57d2de4355490912", func := "ostiary/ostiarylaw03.SumZero", spec := "sumZero", apart := false, narrowed := true }
def SumZeroUptoSaid : Prop := sumZeroUptoRow.holds Try.pinned (OpenSpec.upto sumZeroSpec)

/-- 'ostiarylaw07.TalkApart', WHERE WHAT IT READS IS OF BULK AT MOST 1048576: true; the input reads as it did. -/
def talkApartUptoRow : OpenClaim := { program := "ytcnfmkhkibfpbaa", sum := "d3ced3ef23ddaf700f6e076b06cafe6e9a050f664dc5297b57d2de4355490912", func := "ostiary/ostiarylaw07.TalkApart", spec := "talkApart", apart := false, narrowed := true }
def TalkApartUptoSaid : Prop := talkApartUptoRow.holds Try.pinned (OpenSpec.upto talkApartSpec)

/-- 'ostiarylaw07.TalkName', WHERE WHAT IT READS IS OF BULK AT MOST 1048576: true; the input reads as it did. -/
def talkNameUptoRow : OpenClaim := { program := "ytcnfmkhkibfpbaa", sum := "d3ced3ef23ddaf700f6e076b06cafe6e9a050f664dc5297b57d2de4355490912", func := "ostiary/ostiarylaw07.TalkName", spec := "talkName", apart := false, narrowed := true }
def TalkNameUptoSaid : Prop := talkNameUptoRow.holds Try.pinned (OpenSpec.upto talkNameSpec)

/-- 'ostiarylaw07.TalkProof', WHERE WHAT IT READS IS OF BULK AT MOST 1048576: true; the input reads as it did. -/
def talkProofUptoRow : OpenClaim := { program := "ytcnfmkhkibfpbaa", sum := "d3ced3ef23ddaf700f6e076b06cafe6e9a050f664dc5297b57d2de4355490912", func := "ostiary/ostiarylaw07.TalkProof", spec := "talkProof", apart := false, narrowed := true }
def TalkProofUptoSaid : Prop := talkProofUptoRow.holds Try.pinned (OpenSpec.upto talkProofSpec)

end Rows
end Go.Proofs.Ytcnfmkhkibfpbaa
