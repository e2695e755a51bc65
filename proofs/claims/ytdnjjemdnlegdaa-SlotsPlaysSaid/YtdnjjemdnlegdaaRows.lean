/-
  No cell of these rows narrows 'for every input' (looked for: loops, veiled, ifaces, maps, wideKeys, modest, calm, conditions, laid).
  DERIVED. THE GIVEN ROWS OF THIS SEAT. 11 by the template 'for every input the law returns true; each argument reads behind the call as it read before'; 0 by the template 'total and deterministic' (their statements: YtdnjjemdnlegdaaTotals.lean).
  GIVEN WITH THE SEED: the statements are not yours to turn. If you find one false, say at which input.
  Laid BY PROGRAM, IN A SANDBOX (cutbox-rows.mjs): the forced cells as the released guide's own fill.sh prints them over the translation 3d4250f01195d890… (all of the seat's roots in one cut). By AI agents, Wed Nov 11 2026. No macro, syntax, notation, axiom, sorry.
-/
import Derived.Test.YtdnjjemdnlegdaaChecked
import GoSem.Claim
import GoSem.ClaimJoined
import GoSem.ClaimMapViews
import Derived.JoinedTies
import Derived.KernelRfl
namespace Go.Proofs.Ytdnjjemdnlegdaa
/- THE CELL 'sum', in the pinned program and in every row, IS THE sha256 OF THE DUMP (.gsa) THAT YtdnjjemdnlegdaaProg.lean LOADS. Nothing in Lean hashes anything: it is a label: what it is worth is what the hold of that sum in a sandbox is worth. -/
noncomputable def Try.pinned : Pinned := { name := "ytdnjjemdnlegdaa", sum := "3d4250f01195d8905685613386f0f19fd8dfc0be5a59ffd119cd7476e1acadad", checked := Try.checked }
namespace Rows
def none {H : Type} : Left H := { results := [], args := [] }

/-- 'redwaxlaw08.DiskTorn': WHATEVER THE INPUT: true; the input reads as it did. -/
def diskTornSpec : ChangeSpec := { name := "diskTorn", fn := fun _ => fun
  | [d1, d2, d3] => { results := [.lit (.bool true)], args := [d1, d2, d3] }
  | _ => none }
def diskTornRow : OpenClaim := { program := "ytdnjjemdnlegdaa", sum := "3d4250f01195d8905685613386f0f19fd8dfc0be5a59ffd119cd7476e1acadad", func := "redwax/redwaxlaw08.DiskTorn", spec := "diskTorn", apart := false }
def DiskTornSaid : Prop := diskTornRow.holds Try.pinned (OpenSpec.ofChange diskTornSpec)

/-- ITS FALSE NEIGHBOUR: 'it returns false'. Refute it at one input. -/
def diskTornWrong : ChangeSpec := { name := "diskTorn", fn := fun _ => fun
  | [d1, d2, d3] => { results := [.lit (.bool false)], args := [d1, d2, d3] }
  | _ => none }
def DiskTornWrongFalsely : Prop := diskTornRow.holds Try.pinned (OpenSpec.ofChange diskTornWrong)

/-- 'redwaxlaw08.DiskCopies': WHATEVER THE INPUT: true; the input reads as it did. -/
def diskCopiesSpec : ChangeSpec := { name := "diskCopies", fn := fun _ => fun
  | [d1, d2] => { results := [.lit (.bool true)], args := [d1, d2] }
  | _ => none }
def diskCopiesRow : OpenClaim := { program := "ytdnjjemdnlegdaa", sum := "3d4250f01195d8905685613386f0f19fd8dfc0be5a59ffd119cd7476e1acadad", func := "redwax/redwaxlaw08.DiskCopies", spec := "diskCopies", apart := false }
def DiskCopiesSaid : Prop := diskCopiesRow.holds Try.pinned (OpenSpec.ofChange diskCopiesSpec)

/-- ITS FALSE NEIGHBOUR: 'it returns false'. Refute it at one input. -/
def diskCopiesWrong : ChangeSpec := { name := "diskCopies", fn := fun _ => fun
  | [d1, d2] => { results := [.lit (.bool false)], args := [d1, d2] }
  | _ => none }
def DiskCopiesWrongFalsely : Prop := diskCopiesRow.holds Try.pinned (OpenSpec.ofChange diskCopiesWrong)

/-- 'redwaxlaw08.DiskKnown': WHATEVER THE INPUT: true; the input reads as it did. -/
def diskKnownSpec : ChangeSpec := { name := "diskKnown", fn := fun _ => fun
  | [] => { results := [.lit (.bool true)], args := [] }
  | _ => none }
def diskKnownRow : OpenClaim := { program := "ytdnjjemdnlegdaa", sum := "3d4250f01195d8905685613386f0f19fd8dfc0be5a59ffd119cd7476e1acadad", func := "redwax/redwaxlaw08.DiskKnown", spec := "diskKnown", apart := false }
def DiskKnownSaid : Prop := diskKnownRow.holds Try.pinned (OpenSpec.ofChange diskKnownSpec)

/-- ITS FALSE NEIGHBOUR: 'it returns false'. Refute it at one input. -/
def diskKnownWrong : ChangeSpec := { name := "diskKnown", fn := fun _ => fun
  | [] => { results := [.lit (.bool false)], args := [] }
  | _ => none }
def DiskKnownWrongFalsely : Prop := diskKnownRow.holds Try.pinned (OpenSpec.ofChange diskKnownWrong)

/-- 'redwaxlaw09.SlotsWhole': WHATEVER THE INPUT: true; the input reads as it did. -/
def slotsWholeSpec : ChangeSpec := { name := "slotsWhole", fn := fun _ => fun
  | [d1, d2] => { results := [.lit (.bool true)], args := [d1, d2] }
  | _ => none }
def slotsWholeRow : OpenClaim := { program := "ytdnjjemdnlegdaa", sum := "3d4250f01195d8905685613386f0f19fd8dfc0be5a59ffd119cd7476e1acadad", func := "redwax/redwaxlaw09.SlotsWhole", spec := "slotsWhole", unfollowed := true, recurses := true, apart := false }
def SlotsWholeSaid : Prop := slotsWholeRow.holds Try.pinned (OpenSpec.ofChange slotsWholeSpec)

/-- ITS FALSE NEIGHBOUR: 'it returns false'. Refute it at one input. -/
def slotsWholeWrong : ChangeSpec := { name := "slotsWhole", fn := fun _ => fun
  | [d1, d2] => { results := [.lit (.bool false)], args := [d1, d2] }
  | _ => none }
def SlotsWholeWrongFalsely : Prop := slotsWholeRow.holds Try.pinned (OpenSpec.ofChange slotsWholeWrong)

/-- 'redwaxlaw09.SlotsPlays': WHATEVER THE INPUT: true; the input reads as it did. -/
def slotsPlaysSpec : ChangeSpec := { name := "slotsPlays", fn := fun _ => fun
  | [d1, d2] => { results := [.lit (.bool true)], args := [d1, d2] }
  | _ => none }
def slotsPlaysRow : OpenClaim := { program := "ytdnjjemdnlegdaa", sum := "3d4250f01195d8905685613386f0f19fd8dfc0be5a59ffd119cd7476e1acadad", func := "redwax/redwaxlaw09.SlotsPlays", spec := "slotsPlays", unfollowed := true, recurses := true, apart := false }
def SlotsPlaysSaid : Prop := slotsPlaysRow.holds Try.pinned (OpenSpec.ofChange slotsPlaysSpec)

/-- ITS FALSE NEIGHBOUR: 'it returns false'. Refute it at one input. -/
def slotsPlaysWrong : ChangeSpec := { name := "slotsPlays", fn := fun _ => fun
  | [d1, d2] => { results := [.lit (.bool false)], args := [d1, d2] }
  | _ => none }
def SlotsPlaysWrongFalsely : Prop := slotsPlaysRow.holds Try.pinned (OpenSpec.ofChange slotsPlaysWrong)

/-- 'redwaxlaw09.SlotsKnown': WHATEVER THE INPUT: true; the input reads as it did. -/
def slotsKnownSpec : ChangeSpec := { name := "slotsKnown", fn := fun _ => fun
  | [] => { results := [.lit (.bool true)], args := [] }
  | _ => none }
def slotsKnownRow : OpenClaim := { program := "ytdnjjemdnlegdaa", sum := "3d4250f01195d8905685613386f0f19fd8dfc0be5a59ffd119cd7476e1acadad", func := "redwax/redwaxlaw09.SlotsKnown", spec := "slotsKnown", unfollowed := true, recurses := true, apart := false }
def SlotsKnownSaid : Prop := slotsKnownRow.holds Try.pinned (OpenSpec.ofChange slotsKnownSpec)

/-- ITS FALSE NEIGHBOUR: 'it returns false'. Refute it at one input. -/
def slotsKnownWrong : ChangeSpec := { name := "slotsKnown", fn := fun _ => fun
  | [] => { results := [.lit (.bool false)], args := [] }
  | _ => none }
def SlotsKnownWrongFalsely : Prop := slotsKnownRow.holds Try.pinned (OpenSpec.ofChange slotsKnownWrong)

/-- 'redwaxlaw10.EpochTwo': WHATEVER THE INPUT: true; the input reads as it did. -/
def epochTwoSpec : ChangeSpec := { name := "epochTwo", fn := fun _ => fun
  | [d1, d2] => { results := [.lit (.bool true)], args := [d1, d2] }
  | _ => none }
def epochTwoRow : OpenClaim := { program := "ytdnjjemdnlegdaa", sum := "3d4250f01195d8905685613386f0f19fd8dfc0be5a59ffd119cd7476e1acadad", func := "redwax/redwaxlaw10.EpochTwo", spec := "epochTwo", unfollowed := true, recurses := true, apart := false }
def EpochTwoSaid : Prop := epochTwoRow.holds Try.pinned (OpenSpec.ofChange epochTwoSpec)

/-- ITS FALSE NEIGHBOUR: 'it returns false'. Refute it at one input. -/
def epochTwoWrong : ChangeSpec := { name := "epochTwo", fn := fun _ => fun
  | [d1, d2] => { results := [.lit (.bool false)], args := [d1, d2] }
  | _ => none }
def EpochTwoWrongFalsely : Prop := epochTwoRow.holds Try.pinned (OpenSpec.ofChange epochTwoWrong)

/-- 'redwaxlaw10.EpochOpens': WHATEVER THE INPUT: true; the input reads as it did. -/
def epochOpensSpec : ChangeSpec := { name := "epochOpens", fn := fun _ => fun
  | [d1, d2, d3] => { results := [.lit (.bool true)], args := [d1, d2, d3] }
  | _ => none }
def epochOpensRow : OpenClaim := { program := "ytdnjjemdnlegdaa", sum := "3d4250f01195d8905685613386f0f19fd8dfc0be5a59ffd119cd7476e1acadad", func := "redwax/redwaxlaw10.EpochOpens", spec := "epochOpens", unfollowed := true, recurses := true, apart := false }
def EpochOpensSaid : Prop := epochOpensRow.holds Try.pinned (OpenSpec.ofChange epochOpensSpec)

/-- ITS FALSE NEIGHBOUR: 'it returns false'. Refute it at one input. -/
def epochOpensWrong : ChangeSpec := { name := "epochOpens", fn := fun _ => fun
  | [d1, d2, d3] => { results := [.lit (.bool false)], args := [d1, d2, d3] }
  | _ => none }
def EpochOpensWrongFalsely : Prop := epochOpensRow.holds Try.pinned (OpenSpec.ofChange epochOpensWrong)

/-- 'redwaxlaw10.EpochCounts': WHATEVER THE INPUT: true; the input reads as it did. -/
def epochCountsSpec : ChangeSpec := { name := "epochCounts", fn := fun _ => fun
  | [d1, d2] => { results := [.lit (.bool true)], args := [d1, d2] }
  | _ => none }
def epochCountsRow : OpenClaim := { program := "ytdnjjemdnlegdaa", sum := "3d4250f01195d8905685613386f0f19fd8dfc0be5a59ffd119cd7476e1acadad", func := "redwax/redwaxlaw10.EpochCounts", spec := "epochCounts", unfollowed := true, recurses := true, apart := false }
def EpochCountsSaid : Prop := epochCountsRow.holds Try.pinned (OpenSpec.ofChange epochCountsSpec)

/-- ITS FALSE NEIGHBOUR: 'it returns false'. Refute it at one input. -/
def epochCountsWrong : ChangeSpec := { name := "epochCounts", fn := fun _ => fun
  | [d1, d2] => { results := [.lit (.bool false)], args := [d1, d2] }
  | _ => none }
def EpochCountsWrongFalsely : Prop := epochCountsRow.holds Try.pinned (OpenSpec.ofChange epochCountsWrong)

/-- 'redwaxlaw10.EpochKnown': WHATEVER THE INPUT: true; the input reads as it did. -/
def epochKnownSpec : ChangeSpec := { name := "epochKnown", fn := fun _ => fun
  | [] => { results := [.lit (.bool true)], args := [] }
  | _ => none }
def epochKnownRow : OpenClaim := { program := "ytdnjjemdnlegdaa", sum := "3d4250f01195d8905685613386f0f19fd8dfc0be5a59ffd119cd7476e1acadad", func := "redwax/redwaxlaw10.EpochKnown", spec := "epochKnown", unfollowed := true, recurses := true, apart := false }
def EpochKnownSaid : Prop := epochKnownRow.holds Try.pinned (OpenSpec.ofChange epochKnownSpec)

/-- ITS FALSE NEIGHBOUR: 'it returns false'. Refute it at one input. -/
def epochKnownWrong : ChangeSpec := { name := "epochKnown", fn := fun _ => fun
  | [] => { results := [.lit (.bool false)], args := [] }
  | _ => none }
def EpochKnownWrongFalsely : Prop := epochKnownRow.holds Try.pinned (OpenSpec.ofChange epochKnownWrong)

/-- 'redwaxlaw10.EpochCut': WHATEVER THE INPUT: true; the input reads as it did. -/
def epochCutSpec : ChangeSpec := { name := "epochCut", fn := fun _ => fun
  | [d1, d2] => { results := [.lit (.bool true)], args := [d1, d2] }
  | _ => none }
def epochCutRow : OpenClaim := { program := "ytdnjjemdnlegdaa", sum := "3d4250f01195d8905685613386f0f19fd8dfc0be5a59ffd119cd7476e1acadad", func := "redwax/redwaxlaw10.EpochCut", spec := "epochCut", unfollowed := true, recurses := true, apart := false }
def EpochCutSaid : Prop := epochCutRow.holds Try.pinned (OpenSpec.ofChange epochCutSpec)

/-- ITS FALSE NEIGHBOUR: 'it returns false'. Refute it at one input. -/
def epochCutWrong : ChangeSpec := { name := "epochCut", fn := fun _ => fun
  | [d1, d2] => { results := [.lit (.bool false)], args := [d1, d2] }
  | _ => none }
def EpochCutWrongFalsely : Prop := epochCutRow.holds Try.pinned (OpenSpec.ofChange epochCutWrong)

/- THE SECOND FORM. 'bulk': how many values and letters a reading holds, each counted each time it is reached (what is shared counts as often as it is met; a slice's spare places count too). A statement '..UptoSaid' is the law's where the arguments, and the package variables that the reading takes, are together of bulk at most 1048576: NARROWER than '..Said'. Prove '..Said' where nothing that the law and all that it calls make is longer than what came in: it says more and counts as full. Else prove '..UptoSaid'. A law counts once. -/
mutual
def uptoBulk {H : Type} : DataW H → Nat
  | .lit (.string bytes) => bytes.length + 1
  | .lit _ => 1
  | .nil => 1
  | .ptr d => uptoBulk d + 1
  | .slice elems spare => uptoBulkAll elems + uptoBulkAll spare + 1
  | .agg parts => uptoBulkAll parts + 1
  | .iface _ d => uptoBulk d + 1
  | .map entries => uptoBulkEntries entries + 1
  | .held _ => 1
def uptoBulkAll {H : Type} : List (DataW H) → Nat
  | [] => 0
  | d :: r => uptoBulk d + uptoBulkAll r
def uptoBulkEntries {H : Type} : List (Lit × DataW H) → Nat
  | [] => 0
  | x :: r => uptoBulkEntry x + uptoBulkEntries r
def uptoBulkEntry {H : Type} : Lit × DataW H → Nat
  | (.string bytes, d) => bytes.length + uptoBulk d + 1
  | (_, d) => uptoBulk d + 1
 end
def uptoSmall : (H : Type) → List (DataW H) → Bool := fun _ ds => decide (uptoBulkAll ds ≤ 1048576)
def OpenSpec.upto (s : _root_.Go.ChangeSpec) : _root_.Go.OpenSpec := { _root_.Go.OpenSpec.ofChange s with cond := some uptoSmall }

/-- 'redwaxlaw08.DiskTorn', WHERE WHAT IT READS IS OF BULK AT MOST 1048576: true; the input reads as it did. -/
def diskTornUptoRow : OpenClaim := { program := "ytdnjjemdnlegdaa", sum := "3d4250f01195d8905685613386f0f19fd8dfc0be5a59ffd119cd7476e1acadad", func := "redwax/redwaxlaw08.DiskTorn", spec := "diskTorn", apart := false, narrowed := true }
def DiskTornUptoSaid : Prop := diskTornUptoRow.holds Try.pinned (OpenSpec.upto diskTornSpec)

/-- 'redwaxlaw08.DiskCopies', WHERE WHAT IT READS IS OF BULK AT MOST 1048576: true; the input reads as it did. -/
def diskCopiesUptoRow : OpenClaim := { program := "ytdnjjemdnlegdaa", sum := "3d4250f01195d8905685613386f0f19fd8dfc0be5a59ffd119cd7476e1acadad", func := "redwax/redwaxlaw08.DiskCopies", spec := "diskCopies", apart := false, narrowed := true }
def DiskCopiesUptoSaid : Prop := diskCopiesUptoRow.holds Try.pinned (OpenSpec.upto diskCopiesSpec)

/-- 'redwaxlaw08.DiskKnown', WHERE WHAT IT READS IS OF BULK AT MOST 1048576: true; the input reads as it did. -/
def diskKnownUptoRow : OpenClaim := { program := "ytdnjjemdnlegdaa", sum := "3d4250f01195d8905685613386f0f19fd8dfc0be5a59ffd119cd7476e1acadad", func := "redwax/redwaxlaw08.DiskKnown", spec := "diskKnown", apart := false, narrowed := true }
def DiskKnownUptoSaid : Prop := diskKnownUptoRow.holds Try.pinned (OpenSpec.upto diskKnownSpec)

/-- 'redwaxlaw09.SlotsWhole', WHERE WHAT IT READS IS OF BULK AT MOST 1048576: true; the input reads as it did. -/
def slotsWholeUptoRow : OpenClaim := { program := "ytdnjjemdnlegdaa", sum := "3d4250f01195d8905685613386f0f19fd8dfc0be5a59ffd119cd7476e1acadad", func := "redwax/redwaxlaw09.SlotsWhole", spec := "slotsWhole", unfollowed := true, recurses := true, apart := false, narrowed := true }
def SlotsWholeUptoSaid : Prop := slotsWholeUptoRow.holds Try.pinned (OpenSpec.upto slotsWholeSpec)

/-- 'redwaxlaw09.SlotsPlays', WHERE WHAT IT READS IS OF BULK AT MOST 1048576: true; the input reads as it did. -/
def slotsPlaysUptoRow : OpenClaim := { program := "ytdnjjemdnlegdaa", sum := "3d4250f01195d8905685613386f0f19fd8dfc0be5a59ffd119cd7476e1acadad", func := "redwax/redwaxlaw09.SlotsPlays", spec := "slotsPlays", unfollowed := true, recurses := true, apart := false, narrowed := true }
def SlotsPlaysUptoSaid : Prop := slotsPlaysUptoRow.holds Try.pinned (OpenSpec.upto slotsPlaysSpec)

/-- 'redwaxlaw09.SlotsKnown', WHERE WHAT IT READS IS OF BULK AT MOST 1048576: true; the input reads as it did. -/
def slotsKnownUptoRow : OpenClaim := { program := "ytdnjjemdnlegdaa", sum := "3d4250f01195d8905685613386f0f19fd8dfc0be5a59ffd119cd7476e1acadad", func := "redwax/redwaxlaw09.SlotsKnown", spec := "slotsKnown", unfollowed := true, recurses := true, apart := false, narrowed := true }
def SlotsKnownUptoSaid : Prop := slotsKnownUptoRow.holds Try.pinned (OpenSpec.upto slotsKnownSpec)

/-- 'redwaxlaw10.EpochTwo', WHERE WHAT IT READS IS OF BULK AT MOST 1048576: true; the input reads as it did. -/
def epochTwoUptoRow : OpenClaim := { program := "ytdnjjemdnlegdaa", sum := "3d4250f01195d8905685613386f0f19fd8dfc0be5a59ffd119cd7476e1acadad", func := "redwax/redwaxlaw10.EpochTwo", spec := "epochTwo", unfollowed := true, recurses := true, apart := false, narrowed := true }
def EpochTwoUptoSaid : Prop := epochTwoUptoRow.holds Try.pinned (OpenSpec.upto epochTwoSpec)

/-- 'redwaxlaw10.EpochOpens', WHERE WHAT IT READS IS OF BULK AT MOST 1048576: true; the input reads as it did. -/
def epochOpensUptoRow : OpenClaim := { program := "ytdnjjemdnlegdaa", sum := "3d4250f01195d8905685613386f0f19fd8dfc0be5a59ffd119cd7476e1acadad", func := "redwax/redwaxlaw10.EpochOpens", spec := "epochOpens", unfollowed := true, recurses := true, apart := false, narrowed := true }
def EpochOpensUptoSaid : Prop := epochOpensUptoRow.holds Try.pinned (OpenSpec.upto epochOpensSpec)

/-- 'redwaxlaw10.EpochCounts', WHERE WHAT IT READS IS OF BULK AT MOST 1048576: true; the input reads as it did. -/
def epochCountsUptoRow : OpenClaim := { program := "ytdnjjemdnlegdaa", sum := "3d4250f01195d8905685613386f0f19fd8dfc0be5a59ffd119cd7476e1acadad", func := "redwax/redwaxlaw10.EpochCounts", spec := "epochCounts", unfollowed := true, recurses := true, apart := false, narrowed := true }
def EpochCountsUptoSaid : Prop := epochCountsUptoRow.holds Try.pinned (OpenSpec.upto epochCountsSpec)

/-- 'redwaxlaw10.EpochKnown', WHERE WHAT IT READS IS OF BULK AT MOST 1048576: true; the input reads as it did. -/
def epochKnownUptoRow : OpenClaim := { program := "ytdnjjemdnlegdaa", sum := "3d4250f01195d8905685613386f0f19fd8dfc0be5a59ffd119cd7476e1acadad", func := "redwax/redwaxlaw10.EpochKnown", spec := "epochKnown", unfollowed := true, recurses := true, apart := false, narrowed := true }
def EpochKnownUptoSaid : Prop := epochKnownUptoRow.holds Try.pinned (OpenSpec.upto epochKnownSpec)

/-- 'redwaxlaw10.EpochCut', WHERE WHAT IT READS IS OF BULK AT MOST 1048576: true; the input reads as it did. -/
def epochCutUptoRow : OpenClaim := { program := "ytdnjjemdnlegdaa", sum := "3d4250f01195d8905685613386f0f19fd8dfc0be5a59ffd119cd7476e1acadad", func := "redwax/redwaxlaw10.EpochCut", spec := "epochCut", unfollowed := true, recurses := true, apart := false, narrowed := true }
def EpochCutUptoSaid : Prop := epochCutUptoRow.holds Try.pinned (OpenSpec.upto epochCutSpec)

end Rows
end Go.Proofs.Ytdnjjemdnlegdaa
