/-
  No cell of these rows narrows 'for every input' (looked for: loops, veiled, ifaces, maps, wideKeys, modest, calm, conditions, laid).
  DERIVED. THE GIVEN ROWS OF THIS SEAT. 5 by the template 'for every input the law returns true; each argument reads behind the call as it read before'; 0 by the template 'total and deterministic' (their statements: YtnoilogepkelaaaTotals.lean).
  GIVEN WITH THE SEED: the statements are not yours to turn. If you find one false, say at which input.
  Laid BY PROGRAM, IN A SANDBOX (cutbox-rows.mjs): the forced cells as the released guide's own fill.sh prints them over the translation 9ff511d2a93c10a8… (all of the seat's roots in one cut). By AI agents, Wed Nov 11 2026. No macro, syntax, notation, axiom, sorry.
-/
import Derived.Test.YtnoilogepkelaaaChecked
import GoSem.Claim
import GoSem.ClaimJoined
import GoSem.ClaimMapViews
import Derived.JoinedTies
import Derived.KernelRfl
namespace Go.Proofs.Ytnoilogepkelaaa
/- THE CELL 'sum', in the pinned program and in every row, IS THE sha256 OF THE DUMP (.gsa) THAT YtnoilogepkelaaaProg.lean LOADS. Nothing in Lean hashes anything: it is a label: what it is worth is what the hold of that sum in a sandbox is worth. -/
noncomputable def Try.pinned : Pinned := { name := "ytnoilogepkelaaa", sum := "9ff511d2a93c10a8a476c3f172b54d7b4f6b621bf1465ea94f5160b1800cb706", checked := Try.checked }
namespace Rows
def none {H : Type} : Left H := { results := [], args := [] }

/-- 'redwaxlaw03.ChachaQuarter': WHATEVER THE INPUT: true; the input reads as it did. -/
def chachaQuarterSpec : ChangeSpec := { name := "chachaQuarter", fn := fun _ => fun
  | [d] => { results := [.lit (.bool true)], args := [d] }
  | _ => none }
def chachaQuarterRow : OpenClaim := { program := "ytnoilogepkelaaa", sum := "9ff511d2a93c10a8a476c3f172b54d7b4f6b621bf1465ea94f5160b1800cb706", func := "redwax/redwaxlaw03.ChachaQuarter", spec := "chachaQuarter", apart := false }
def ChachaQuarterSaid : Prop := chachaQuarterRow.holds Try.pinned (OpenSpec.ofChange chachaQuarterSpec)

/-- ITS FALSE NEIGHBOUR: 'it returns false'. Refute it at one input. -/
def chachaQuarterWrong : ChangeSpec := { name := "chachaQuarter", fn := fun _ => fun
  | [d] => { results := [.lit (.bool false)], args := [d] }
  | _ => none }
def ChachaQuarterWrongFalsely : Prop := chachaQuarterRow.holds Try.pinned (OpenSpec.ofChange chachaQuarterWrong)

/-- 'redwaxlaw03.ChachaBlocks': WHATEVER THE INPUT: true; the input reads as it did. -/
def chachaBlocksSpec : ChangeSpec := { name := "chachaBlocks", fn := fun _ => fun
  | [d1, d2, d3] => { results := [.lit (.bool true)], args := [d1, d2, d3] }
  | _ => none }
def chachaBlocksRow : OpenClaim := { program := "ytnoilogepkelaaa", sum := "9ff511d2a93c10a8a476c3f172b54d7b4f6b621bf1465ea94f5160b1800cb706", func := "redwax/redwaxlaw03.ChachaBlocks", spec := "chachaBlocks", apart := false }
def ChachaBlocksSaid : Prop := chachaBlocksRow.holds Try.pinned (OpenSpec.ofChange chachaBlocksSpec)

/-- ITS FALSE NEIGHBOUR: 'it returns false'. Refute it at one input. -/
def chachaBlocksWrong : ChangeSpec := { name := "chachaBlocks", fn := fun _ => fun
  | [d1, d2, d3] => { results := [.lit (.bool false)], args := [d1, d2, d3] }
  | _ => none }
def ChachaBlocksWrongFalsely : Prop := chachaBlocksRow.holds Try.pinned (OpenSpec.ofChange chachaBlocksWrong)

/-- 'redwaxlaw03.ChachaStreams': WHATEVER THE INPUT: true; the input reads as it did. -/
def chachaStreamsSpec : ChangeSpec := { name := "chachaStreams", fn := fun _ => fun
  | [d1, d2] => { results := [.lit (.bool true)], args := [d1, d2] }
  | _ => none }
def chachaStreamsRow : OpenClaim := { program := "ytnoilogepkelaaa", sum := "9ff511d2a93c10a8a476c3f172b54d7b4f6b621bf1465ea94f5160b1800cb706", func := "redwax/redwaxlaw03.ChachaStreams", spec := "chachaStreams", unfollowed := true, recurses := true, apart := false }
def ChachaStreamsSaid : Prop := chachaStreamsRow.holds Try.pinned (OpenSpec.ofChange chachaStreamsSpec)

/-- ITS FALSE NEIGHBOUR: 'it returns false'. Refute it at one input. -/
def chachaStreamsWrong : ChangeSpec := { name := "chachaStreams", fn := fun _ => fun
  | [d1, d2] => { results := [.lit (.bool false)], args := [d1, d2] }
  | _ => none }
def ChachaStreamsWrongFalsely : Prop := chachaStreamsRow.holds Try.pinned (OpenSpec.ofChange chachaStreamsWrong)

/-- 'redwaxlaw03.ChachaKnown': WHATEVER THE INPUT: true; the input reads as it did. -/
def chachaKnownSpec : ChangeSpec := { name := "chachaKnown", fn := fun _ => fun
  | [] => { results := [.lit (.bool true)], args := [] }
  | _ => none }
def chachaKnownRow : OpenClaim := { program := "ytnoilogepkelaaa", sum := "9ff511d2a93c10a8a476c3f172b54d7b4f6b621bf1465ea94f5160b1800cb706", func := "redwax/redwaxlaw03.ChachaKnown", spec := "chachaKnown", unfollowed := true, recurses := true, apart := false }
def ChachaKnownSaid : Prop := chachaKnownRow.holds Try.pinned (OpenSpec.ofChange chachaKnownSpec)

/-- ITS FALSE NEIGHBOUR: 'it returns false'. Refute it at one input. -/
def chachaKnownWrong : ChangeSpec := { name := "chachaKnown", fn := fun _ => fun
  | [] => { results := [.lit (.bool false)], args := [] }
  | _ => none }
def ChachaKnownWrongFalsely : Prop := chachaKnownRow.holds Try.pinned (OpenSpec.ofChange chachaKnownWrong)

/-- 'redwaxlaw03.ChachaBack': WHATEVER THE INPUT: true; the input reads as it did. -/
def chachaBackSpec : ChangeSpec := { name := "chachaBack", fn := fun _ => fun
  | [d1, d2, d3] => { results := [.lit (.bool true)], args := [d1, d2, d3] }
  | _ => none }
def chachaBackRow : OpenClaim := { program := "ytnoilogepkelaaa", sum := "9ff511d2a93c10a8a476c3f172b54d7b4f6b621bf1465ea94f5160b1800cb706", func := "redwax/redwaxlaw03.ChachaBack", spec := "chachaBack", unfollowed := true, recurses := true, apart := false }
def ChachaBackSaid : Prop := chachaBackRow.holds Try.pinned (OpenSpec.ofChange chachaBackSpec)

/-- ITS FALSE NEIGHBOUR: 'it returns false'. Refute it at one input. -/
def chachaBackWrong : ChangeSpec := { name := "chachaBack", fn := fun _ => fun
  | [d1, d2, d3] => { results := [.lit (.bool false)], args := [d1, d2, d3] }
  | _ => none }
def ChachaBackWrongFalsely : Prop := chachaBackRow.holds Try.pinned (OpenSpec.ofChange chachaBackWrong)

/- THE SECOND FORM. 'bulk': how many values and letters a reading holds, each counted each time it is reached (what is shared counts as often as it is met; a slice's spare places count too). A statement '..UptoSaid' is the law's where the arguments, and the package variables that the reading takes, are together of bulk at most 1048576: NARROWER than '..Said'. Prove '..Said' where nothing that the law and all that it calls make is longer than what came in: it says more and counts as full. Else prove '..UptoSaid'. A law counts once. -/
mutual
def uptoBulk {H : Type} : DataW H → Nat
  | .lit (.string bytes) => bytes.length + 1
  | .lit _ => 1
  | .nil => 1
  | .ptr d => uptoBulk d + 1
  | .slice elems spare => uptoBulkAll elems + uptoBulkAll spare + 1
  | .agg parts => uptoBulkAll parts + 1
  | .iface _ d => uptoBulk d + 1
  | .map entries => uptoBulkEntries entries + 1
  | .held _ => 1
def uptoBulkAll {H : Type} : List (DataW H) → Nat
  | [] => 0
  | d :: r => uptoBulk d + uptoBulkAll r
def uptoBulkEntries {H : Type} : List (Lit × DataW H) → Nat
  | [] => 0
  | x :: r => uptoBulkEntry x + uptoBulkEntries r
def uptoBulkEntry {H : Type} : Lit × DataW H → Nat
  | (.string bytes, d) => bytes.length + uptoBulk d + 1
  | (_, d) => uptoBulk d + 1
 end
def uptoSmall : (H : Type) → List (DataW H) → Bool := fun _ ds => decide (uptoBulkAll ds ≤ 1048576)
def OpenSpec.upto (s : _root_.Go.ChangeSpec) : _root_.Go.OpenSpec := { _root_.Go.OpenSpec.ofChange s with cond := some uptoSmall }

/-- 'redwaxlaw03.ChachaQuarter', WHERE WHAT IT READS IS OF BULK AT MOST 1048576: true; the input reads as it did. -/
def chachaQuarterUptoRow : OpenClaim := { program := "ytnoilogepkelaaa", sum := "9ff511d2a93c10a8a476c3f172b54d7b4f6b621bf1465ea94f5160b1800cb706", func := "redwax/redwaxlaw03.ChachaQuarter", spec := "chachaQuarter", apart := false, narrowed := true }
def ChachaQuarterUptoSaid : Prop := chachaQuarterUptoRow.holds Try.pinned (OpenSpec.upto chachaQuarterSpec)

/-- 'redwaxlaw03.ChachaBlocks', WHERE WHAT IT READS IS OF BULK AT MOST 1048576: true; the input reads as it did. -/
def chachaBlocksUptoRow : OpenClaim := { program := "ytnoilogepkelaaa", sum := "9ff511d2a93c10a8a476c3f172b54d7b4f6b621bf1465ea94f5160b1800cb706", func := "redwax/redwaxlaw03.ChachaBlocks", spec := "chachaBlocks", apart := false, narrowed := true }
def ChachaBlocksUptoSaid : Prop := chachaBlocksUptoRow.holds Try.pinned (OpenSpec.upto chachaBlocksSpec)

/-- 'redwaxlaw03.ChachaStreams', WHERE WHAT IT READS IS OF BULK AT MOST 1048576: true; the input reads as it did. -/
def chachaStreamsUptoRow : OpenClaim := { program := "ytnoilogepkelaaa", sum := "9ff511d2a93c10a8a476c3f172b54d7b4f6b621bf1465ea94f5160b1800cb706", func := "redwax/redwaxlaw03.ChachaStreams", spec := "chachaStreams", unfollowed := true, recurses := true, apart := false, narrowed := true }
def ChachaStreamsUptoSaid : Prop := chachaStreamsUptoRow.holds Try.pinned (OpenSpec.upto chachaStreamsSpec)

/-- 'redwaxlaw03.ChachaKnown', WHERE WHAT IT READS IS OF BULK AT MOST 1048576: true; the input reads as it did. -/
def chachaKnownUptoRow : OpenClaim := { program := "ytnoilogepkelaaa", sum := "9ff511d2a93c10a8a476c3f172b54d7b4f6b621bf1465ea94f5160b1800cb706", func := "redwax/redwaxlaw03.ChachaKnown", spec := "chachaKnown", unfollowed := true, recurses := true, apart := false, narrowed := true }
def ChachaKnownUptoSaid : Prop := chachaKnownUptoRow.holds Try.pinned (OpenSpec.upto chachaKnownSpec)

/-- 'redwaxlaw03.ChachaBack', WHERE WHAT IT READS IS OF BULK AT MOST 1048576: true; the input reads as it did. -/
def chachaBackUptoRow : OpenClaim := { program := "ytnoilogepkelaaa", sum := "9ff511d2a93c10a8a476c3f172b54d7b4f6b621bf1465ea94f5160b1800cb706", func := "redwax/redwaxlaw03.ChachaBack", spec := "chachaBack", unfollowed := true, recurses := true, apart := false, narrowed := true }
def ChachaBackUptoSaid : Prop := chachaBackUptoRow.holds Try.pinned (OpenSpec.upto chachaBackSpec)

end Rows
end Go.Proofs.Ytnoilogepkelaaa
