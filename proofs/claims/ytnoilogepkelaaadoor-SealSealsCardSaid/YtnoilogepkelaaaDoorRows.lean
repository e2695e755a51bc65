/-
  NARROWER THAN 'FOR EVERY INPUT', by the rows' own cells (each row's printed sentence says how): ShaFolds: laid · ShaAnybody: laid · ShaMixes: laid · ShaDigests: laid · ShaWords: laid · ShaTurned: laid · ShaGoesOn: laid · ShaKnown: laid · HmacPads: laid · HmacEqual: laid · HmacKnown: laid · HmacApart: laid · HmacTags: laid · HmacKeys: laid · SealBuckets: laid · SealKnown: laid · SealBack: laid · SealTags: laid · SealSeals: laid · SealOpens: laid.
  DERIVED. THE GIVEN ROWS OF THIS SEAT. 20 by the template 'for every input the law returns true; each argument reads behind the call as it read before'; 0 by the template 'total and deterministic' (their statements: YtnoilogepkelaaaDoorTotals.lean).
  GIVEN WITH THE SEED: the statements are not yours to turn. If you find one false, say at which input.
  Laid BY PROGRAM, IN A SANDBOX (cutbox-rows.mjs): the forced cells as the released guide's own fill.sh prints them over the translation 24c37eefb7abbefb… (all of the seat's roots in one cut). By AI agents, Wed Nov 11 2026. No macro, syntax, notation, axiom, sorry.
-/
import Derived.Test.YtnoilogepkelaaaDoorChecked
import GoSem.Claim
import GoSem.ClaimJoined
import GoSem.ClaimMapViews
import Derived.JoinedTies
import Derived.KernelRfl
namespace Go.Proofs.YtnoilogepkelaaaDoor
/- THE CELL 'sum', in the pinned program and in every row, IS THE sha256 OF THE DUMP (.gsa) THAT YtnoilogepkelaaaDoorProg.lean LOADS. Nothing in Lean hashes anything: it is a label: what it is worth is what the hold of that sum in a sandbox is worth. -/
noncomputable def Tryd.pinned : Pinned := { name := "ytnoilogepkelaaadoor", sum := "24c37eefb7abbefb937af67cacc0017559b044b05aaef05094ad56e7fc16bb08", checked := Tryd.checked }
namespace Rows
def none {H : Type} : Left H := { results := [], args := [] }

/- WHAT THE LISTED PACKAGE-LEVEL VARIABLES READ AS WHEN THE CALL BEGINS. Each datum BY PROGRAM (the guide's laid-datum.mjs) off the statement by which the dump's own 'gosem.cut.vars' lays the variable. In a bare row this is a premise. The card (YtnoilogepkelaaaDoorCards.lean) ties it to the program's text. -/
def laid_redwax_sha_starts {H : Type} : DataW H := .agg [.lit (.int .u32 1779033703), .lit (.int .u32 3144134277), .lit (.int .u32 1013904242), .lit (.int .u32 2773480762), .lit (.int .u32 1359893119), .lit (.int .u32 2600822924), .lit (.int .u32 528734635), .lit (.int .u32 1541459225)]
def laid_redwax_sha_adds {H : Type} : DataW H := .agg [.lit (.int .u32 1116352408), .lit (.int .u32 1899447441), .lit (.int .u32 3049323471), .lit (.int .u32 3921009573), .lit (.int .u32 961987163), .lit (.int .u32 1508970993), .lit (.int .u32 2453635748), .lit (.int .u32 2870763221), .lit (.int .u32 3624381080), .lit (.int .u32 310598401), .lit (.int .u32 607225278), .lit (.int .u32 1426881987), .lit (.int .u32 1925078388), .lit (.int .u32 2162078206), .lit (.int .u32 2614888103), .lit (.int .u32 3248222580), .lit (.int .u32 3835390401), .lit (.int .u32 4022224774), .lit (.int .u32 264347078), .lit (.int .u32 604807628), .lit (.int .u32 770255983), .lit (.int .u32 1249150122), .lit (.int .u32 1555081692), .lit (.int .u32 1996064986), .lit (.int .u32 2554220882), .lit (.int .u32 2821834349), .lit (.int .u32 2952996808), .lit (.int .u32 3210313671), .lit (.int .u32 3336571891), .lit (.int .u32 3584528711), .lit (.int .u32 113926993), .lit (.int .u32 338241895), .lit (.int .u32 666307205), .lit (.int .u32 773529912), .lit (.int .u32 1294757372), .lit (.int .u32 1396182291), .lit (.int .u32 1695183700), .lit (.int .u32 1986661051), .lit (.int .u32 2177026350), .lit (.int .u32 2456956037), .lit (.int .u32 2730485921), .lit (.int .u32 2820302411), .lit (.int .u32 3259730800), .lit (.int .u32 3345764771), .lit (.int .u32 3516065817), .lit (.int .u32 3600352804), .lit (.int .u32 4094571909), .lit (.int .u32 275423344), .lit (.int .u32 430227734), .lit (.int .u32 506948616), .lit (.int .u32 659060556), .lit (.int .u32 883997877), .lit (.int .u32 958139571), .lit (.int .u32 1322822218), .lit (.int .u32 1537002063), .lit (.int .u32 1747873779), .lit (.int .u32 1955562222), .lit (.int .u32 2024104815), .lit (.int .u32 2227730452), .lit (.int .u32 2361852424), .lit (.int .u32 2428436474), .lit (.int .u32 2756734187), .lit (.int .u32 3204031479), .lit (.int .u32 3329325298)]

/-- 'redwaxlaw01.ShaFolds': WHATEVER THE INPUT: true; the input reads as it did. -/
def shaFoldsSpec : ChangeSpec := { name := "shaFolds", fn := fun _ => fun
  | [d] => { results := [.lit (.bool true)], args := [d] }
  | _ => none }
def shaFoldsRow : OpenClaim := { program := "ytnoilogepkelaaadoor", sum := "24c37eefb7abbefb937af67cacc0017559b044b05aaef05094ad56e7fc16bb08", func := "redwax/redwaxlaw01.ShaFolds", spec := "shaFolds", unfollowed := true, recurses := true, named := ["redwax/sha.starts", "redwax/sha.adds"], apart := false, laid := [("redwax/sha.starts", laid_redwax_sha_starts), ("redwax/sha.adds", laid_redwax_sha_adds)] }
def ShaFoldsSaid : Prop := shaFoldsRow.holds Tryd.pinned (OpenSpec.ofChange shaFoldsSpec)

/-- ITS FALSE NEIGHBOUR: 'it returns false'. Refute it at one input. -/
def shaFoldsWrong : ChangeSpec := { name := "shaFolds", fn := fun _ => fun
  | [d] => { results := [.lit (.bool false)], args := [d] }
  | _ => none }
def ShaFoldsWrongFalsely : Prop := shaFoldsRow.holds Tryd.pinned (OpenSpec.ofChange shaFoldsWrong)

/-- 'redwaxlaw01.ShaAnybody': WHATEVER THE INPUT: true; the input reads as it did. -/
def shaAnybodySpec : ChangeSpec := { name := "shaAnybody", fn := fun _ => fun
  | [d1, d2] => { results := [.lit (.bool true)], args := [d1, d2] }
  | _ => none }
def shaAnybodyRow : OpenClaim := { program := "ytnoilogepkelaaadoor", sum := "24c37eefb7abbefb937af67cacc0017559b044b05aaef05094ad56e7fc16bb08", func := "redwax/redwaxlaw01.ShaAnybody", spec := "shaAnybody", unfollowed := true, recurses := true, named := ["redwax/sha.starts", "redwax/sha.adds"], apart := false, laid := [("redwax/sha.starts", laid_redwax_sha_starts), ("redwax/sha.adds", laid_redwax_sha_adds)] }
def ShaAnybodySaid : Prop := shaAnybodyRow.holds Tryd.pinned (OpenSpec.ofChange shaAnybodySpec)

/-- ITS FALSE NEIGHBOUR: 'it returns false'. Refute it at one input. -/
def shaAnybodyWrong : ChangeSpec := { name := "shaAnybody", fn := fun _ => fun
  | [d1, d2] => { results := [.lit (.bool false)], args := [d1, d2] }
  | _ => none }
def ShaAnybodyWrongFalsely : Prop := shaAnybodyRow.holds Tryd.pinned (OpenSpec.ofChange shaAnybodyWrong)

/-- 'redwaxlaw01.ShaMixes': WHATEVER THE INPUT: true; the input reads as it did. -/
def shaMixesSpec : ChangeSpec := { name := "shaMixes", fn := fun _ => fun
  | [d1, d2, d3] => { results := [.lit (.bool true)], args := [d1, d2, d3] }
  | _ => none }
def shaMixesRow : OpenClaim := { program := "ytnoilogepkelaaadoor", sum := "24c37eefb7abbefb937af67cacc0017559b044b05aaef05094ad56e7fc16bb08", func := "redwax/redwaxlaw01.ShaMixes", spec := "shaMixes", unfollowed := true, recurses := true, named := ["redwax/sha.starts", "redwax/sha.adds"], apart := false, laid := [("redwax/sha.starts", laid_redwax_sha_starts), ("redwax/sha.adds", laid_redwax_sha_adds)] }
def ShaMixesSaid : Prop := shaMixesRow.holds Tryd.pinned (OpenSpec.ofChange shaMixesSpec)

/-- ITS FALSE NEIGHBOUR: 'it returns false'. Refute it at one input. -/
def shaMixesWrong : ChangeSpec := { name := "shaMixes", fn := fun _ => fun
  | [d1, d2, d3] => { results := [.lit (.bool false)], args := [d1, d2, d3] }
  | _ => none }
def ShaMixesWrongFalsely : Prop := shaMixesRow.holds Tryd.pinned (OpenSpec.ofChange shaMixesWrong)

/-- 'redwaxlaw01.ShaDigests': WHATEVER THE INPUT: true; the input reads as it did. -/
def shaDigestsSpec : ChangeSpec := { name := "shaDigests", fn := fun _ => fun
  | [d] => { results := [.lit (.bool true)], args := [d] }
  | _ => none }
def shaDigestsRow : OpenClaim := { program := "ytnoilogepkelaaadoor", sum := "24c37eefb7abbefb937af67cacc0017559b044b05aaef05094ad56e7fc16bb08", func := "redwax/redwaxlaw01.ShaDigests", spec := "shaDigests", unfollowed := true, recurses := true, named := ["redwax/sha.starts", "redwax/sha.adds"], apart := false, laid := [("redwax/sha.starts", laid_redwax_sha_starts), ("redwax/sha.adds", laid_redwax_sha_adds)] }
def ShaDigestsSaid : Prop := shaDigestsRow.holds Tryd.pinned (OpenSpec.ofChange shaDigestsSpec)

/-- ITS FALSE NEIGHBOUR: 'it returns false'. Refute it at one input. -/
def shaDigestsWrong : ChangeSpec := { name := "shaDigests", fn := fun _ => fun
  | [d] => { results := [.lit (.bool false)], args := [d] }
  | _ => none }
def ShaDigestsWrongFalsely : Prop := shaDigestsRow.holds Tryd.pinned (OpenSpec.ofChange shaDigestsWrong)

/-- 'redwaxlaw01.ShaWords': WHATEVER THE INPUT: true; the input reads as it did. -/
def shaWordsSpec : ChangeSpec := { name := "shaWords", fn := fun _ => fun
  | [d1, d2] => { results := [.lit (.bool true)], args := [d1, d2] }
  | _ => none }
def shaWordsRow : OpenClaim := { program := "ytnoilogepkelaaadoor", sum := "24c37eefb7abbefb937af67cacc0017559b044b05aaef05094ad56e7fc16bb08", func := "redwax/redwaxlaw01.ShaWords", spec := "shaWords", unfollowed := true, recurses := true, named := ["redwax/sha.starts", "redwax/sha.adds"], apart := false, laid := [("redwax/sha.starts", laid_redwax_sha_starts), ("redwax/sha.adds", laid_redwax_sha_adds)] }
def ShaWordsSaid : Prop := shaWordsRow.holds Tryd.pinned (OpenSpec.ofChange shaWordsSpec)

/-- ITS FALSE NEIGHBOUR: 'it returns false'. Refute it at one input. -/
def shaWordsWrong : ChangeSpec := { name := "shaWords", fn := fun _ => fun
  | [d1, d2] => { results := [.lit (.bool false)], args := [d1, d2] }
  | _ => none }
def ShaWordsWrongFalsely : Prop := shaWordsRow.holds Tryd.pinned (OpenSpec.ofChange shaWordsWrong)

/-- 'redwaxlaw01.ShaTurned': WHATEVER THE INPUT: true; the input reads as it did. -/
def shaTurnedSpec : ChangeSpec := { name := "shaTurned", fn := fun _ => fun
  | [d1, d2] => { results := [.lit (.bool true)], args := [d1, d2] }
  | _ => none }
def shaTurnedRow : OpenClaim := { program := "ytnoilogepkelaaadoor", sum := "24c37eefb7abbefb937af67cacc0017559b044b05aaef05094ad56e7fc16bb08", func := "redwax/redwaxlaw01.ShaTurned", spec := "shaTurned", unfollowed := true, recurses := true, named := ["redwax/sha.starts", "redwax/sha.adds"], apart := false, laid := [("redwax/sha.starts", laid_redwax_sha_starts), ("redwax/sha.adds", laid_redwax_sha_adds)] }
def ShaTurnedSaid : Prop := shaTurnedRow.holds Tryd.pinned (OpenSpec.ofChange shaTurnedSpec)

/-- ITS FALSE NEIGHBOUR: 'it returns false'. Refute it at one input. -/
def shaTurnedWrong : ChangeSpec := { name := "shaTurned", fn := fun _ => fun
  | [d1, d2] => { results := [.lit (.bool false)], args := [d1, d2] }
  | _ => none }
def ShaTurnedWrongFalsely : Prop := shaTurnedRow.holds Tryd.pinned (OpenSpec.ofChange shaTurnedWrong)

/-- 'redwaxlaw01.ShaGoesOn': WHATEVER THE INPUT: true; the input reads as it did. -/
def shaGoesOnSpec : ChangeSpec := { name := "shaGoesOn", fn := fun _ => fun
  | [d1, d2, d3] => { results := [.lit (.bool true)], args := [d1, d2, d3] }
  | _ => none }
def shaGoesOnRow : OpenClaim := { program := "ytnoilogepkelaaadoor", sum := "24c37eefb7abbefb937af67cacc0017559b044b05aaef05094ad56e7fc16bb08", func := "redwax/redwaxlaw01.ShaGoesOn", spec := "shaGoesOn", unfollowed := true, recurses := true, named := ["redwax/sha.starts", "redwax/sha.adds"], apart := false, laid := [("redwax/sha.starts", laid_redwax_sha_starts), ("redwax/sha.adds", laid_redwax_sha_adds)] }
def ShaGoesOnSaid : Prop := shaGoesOnRow.holds Tryd.pinned (OpenSpec.ofChange shaGoesOnSpec)

/-- ITS FALSE NEIGHBOUR: 'it returns false'. Refute it at one input. -/
def shaGoesOnWrong : ChangeSpec := { name := "shaGoesOn", fn := fun _ => fun
  | [d1, d2, d3] => { results := [.lit (.bool false)], args := [d1, d2, d3] }
  | _ => none }
def ShaGoesOnWrongFalsely : Prop := shaGoesOnRow.holds Tryd.pinned (OpenSpec.ofChange shaGoesOnWrong)

/-- 'redwaxlaw01.ShaKnown': WHATEVER THE INPUT: true; the input reads as it did. -/
def shaKnownSpec : ChangeSpec := { name := "shaKnown", fn := fun _ => fun
  | [] => { results := [.lit (.bool true)], args := [] }
  | _ => none }
def shaKnownRow : OpenClaim := { program := "ytnoilogepkelaaadoor", sum := "24c37eefb7abbefb937af67cacc0017559b044b05aaef05094ad56e7fc16bb08", func := "redwax/redwaxlaw01.ShaKnown", spec := "shaKnown", unfollowed := true, recurses := true, named := ["redwax/sha.starts", "redwax/sha.adds"], apart := false, laid := [("redwax/sha.starts", laid_redwax_sha_starts), ("redwax/sha.adds", laid_redwax_sha_adds)] }
def ShaKnownSaid : Prop := shaKnownRow.holds Tryd.pinned (OpenSpec.ofChange shaKnownSpec)

/-- ITS FALSE NEIGHBOUR: 'it returns false'. Refute it at one input. -/
def shaKnownWrong : ChangeSpec := { name := "shaKnown", fn := fun _ => fun
  | [] => { results := [.lit (.bool false)], args := [] }
  | _ => none }
def ShaKnownWrongFalsely : Prop := shaKnownRow.holds Tryd.pinned (OpenSpec.ofChange shaKnownWrong)

/-- 'redwaxlaw02.HmacPads': WHATEVER THE INPUT: true; the input reads as it did. -/
def hmacPadsSpec : ChangeSpec := { name := "hmacPads", fn := fun _ => fun
  | [d1, d2, d3] => { results := [.lit (.bool true)], args := [d1, d2, d3] }
  | _ => none }
def hmacPadsRow : OpenClaim := { program := "ytnoilogepkelaaadoor", sum := "24c37eefb7abbefb937af67cacc0017559b044b05aaef05094ad56e7fc16bb08", func := "redwax/redwaxlaw02.HmacPads", spec := "hmacPads", unfollowed := true, recurses := true, named := ["redwax/sha.starts", "redwax/sha.adds"], apart := false, laid := [("redwax/sha.starts", laid_redwax_sha_starts), ("redwax/sha.adds", laid_redwax_sha_adds)] }
def HmacPadsSaid : Prop := hmacPadsRow.holds Tryd.pinned (OpenSpec.ofChange hmacPadsSpec)

/-- ITS FALSE NEIGHBOUR: 'it returns false'. Refute it at one input. -/
def hmacPadsWrong : ChangeSpec := { name := "hmacPads", fn := fun _ => fun
  | [d1, d2, d3] => { results := [.lit (.bool false)], args := [d1, d2, d3] }
  | _ => none }
def HmacPadsWrongFalsely : Prop := hmacPadsRow.holds Tryd.pinned (OpenSpec.ofChange hmacPadsWrong)

/-- 'redwaxlaw02.HmacEqual': WHATEVER THE INPUT: true; the input reads as it did. -/
def hmacEqualSpec : ChangeSpec := { name := "hmacEqual", fn := fun _ => fun
  | [d1, d2, d3] => { results := [.lit (.bool true)], args := [d1, d2, d3] }
  | _ => none }
def hmacEqualRow : OpenClaim := { program := "ytnoilogepkelaaadoor", sum := "24c37eefb7abbefb937af67cacc0017559b044b05aaef05094ad56e7fc16bb08", func := "redwax/redwaxlaw02.HmacEqual", spec := "hmacEqual", unfollowed := true, recurses := true, named := ["redwax/sha.starts", "redwax/sha.adds"], apart := false, laid := [("redwax/sha.starts", laid_redwax_sha_starts), ("redwax/sha.adds", laid_redwax_sha_adds)] }
def HmacEqualSaid : Prop := hmacEqualRow.holds Tryd.pinned (OpenSpec.ofChange hmacEqualSpec)

/-- ITS FALSE NEIGHBOUR: 'it returns false'. Refute it at one input. -/
def hmacEqualWrong : ChangeSpec := { name := "hmacEqual", fn := fun _ => fun
  | [d1, d2, d3] => { results := [.lit (.bool false)], args := [d1, d2, d3] }
  | _ => none }
def HmacEqualWrongFalsely : Prop := hmacEqualRow.holds Tryd.pinned (OpenSpec.ofChange hmacEqualWrong)

/-- 'redwaxlaw02.HmacKnown': WHATEVER THE INPUT: true; the input reads as it did. -/
def hmacKnownSpec : ChangeSpec := { name := "hmacKnown", fn := fun _ => fun
  | [] => { results := [.lit (.bool true)], args := [] }
  | _ => none }
def hmacKnownRow : OpenClaim := { program := "ytnoilogepkelaaadoor", sum := "24c37eefb7abbefb937af67cacc0017559b044b05aaef05094ad56e7fc16bb08", func := "redwax/redwaxlaw02.HmacKnown", spec := "hmacKnown", unfollowed := true, recurses := true, named := ["redwax/sha.starts", "redwax/sha.adds"], apart := false, laid := [("redwax/sha.starts", laid_redwax_sha_starts), ("redwax/sha.adds", laid_redwax_sha_adds)] }
def HmacKnownSaid : Prop := hmacKnownRow.holds Tryd.pinned (OpenSpec.ofChange hmacKnownSpec)

/-- ITS FALSE NEIGHBOUR: 'it returns false'. Refute it at one input. -/
def hmacKnownWrong : ChangeSpec := { name := "hmacKnown", fn := fun _ => fun
  | [] => { results := [.lit (.bool false)], args := [] }
  | _ => none }
def HmacKnownWrongFalsely : Prop := hmacKnownRow.holds Tryd.pinned (OpenSpec.ofChange hmacKnownWrong)

/-- 'redwaxlaw02.HmacApart': WHATEVER THE INPUT: true; the input reads as it did. -/
def hmacApartSpec : ChangeSpec := { name := "hmacApart", fn := fun _ => fun
  | [d1, d2, d3] => { results := [.lit (.bool true)], args := [d1, d2, d3] }
  | _ => none }
def hmacApartRow : OpenClaim := { program := "ytnoilogepkelaaadoor", sum := "24c37eefb7abbefb937af67cacc0017559b044b05aaef05094ad56e7fc16bb08", func := "redwax/redwaxlaw02.HmacApart", spec := "hmacApart", unfollowed := true, recurses := true, named := ["redwax/sha.starts", "redwax/sha.adds"], apart := false, laid := [("redwax/sha.starts", laid_redwax_sha_starts), ("redwax/sha.adds", laid_redwax_sha_adds)] }
def HmacApartSaid : Prop := hmacApartRow.holds Tryd.pinned (OpenSpec.ofChange hmacApartSpec)

/-- ITS FALSE NEIGHBOUR: 'it returns false'. Refute it at one input. -/
def hmacApartWrong : ChangeSpec := { name := "hmacApart", fn := fun _ => fun
  | [d1, d2, d3] => { results := [.lit (.bool false)], args := [d1, d2, d3] }
  | _ => none }
def HmacApartWrongFalsely : Prop := hmacApartRow.holds Tryd.pinned (OpenSpec.ofChange hmacApartWrong)

/-- 'redwaxlaw02.HmacTags': WHATEVER THE INPUT: true; the input reads as it did. -/
def hmacTagsSpec : ChangeSpec := { name := "hmacTags", fn := fun _ => fun
  | [d1, d2] => { results := [.lit (.bool true)], args := [d1, d2] }
  | _ => none }
def hmacTagsRow : OpenClaim := { program := "ytnoilogepkelaaadoor", sum := "24c37eefb7abbefb937af67cacc0017559b044b05aaef05094ad56e7fc16bb08", func := "redwax/redwaxlaw02.HmacTags", spec := "hmacTags", unfollowed := true, recurses := true, named := ["redwax/sha.starts", "redwax/sha.adds"], apart := false, laid := [("redwax/sha.starts", laid_redwax_sha_starts), ("redwax/sha.adds", laid_redwax_sha_adds)] }
def HmacTagsSaid : Prop := hmacTagsRow.holds Tryd.pinned (OpenSpec.ofChange hmacTagsSpec)

/-- ITS FALSE NEIGHBOUR: 'it returns false'. Refute it at one input. -/
def hmacTagsWrong : ChangeSpec := { name := "hmacTags", fn := fun _ => fun
  | [d1, d2] => { results := [.lit (.bool false)], args := [d1, d2] }
  | _ => none }
def HmacTagsWrongFalsely : Prop := hmacTagsRow.holds Tryd.pinned (OpenSpec.ofChange hmacTagsWrong)

/-- 'redwaxlaw02.HmacKeys': WHATEVER THE INPUT: true; the input reads as it did. -/
def hmacKeysSpec : ChangeSpec := { name := "hmacKeys", fn := fun _ => fun
  | [d1, d2, d3] => { results := [.lit (.bool true)], args := [d1, d2, d3] }
  | _ => none }
def hmacKeysRow : OpenClaim := { program := "ytnoilogepkelaaadoor", sum := "24c37eefb7abbefb937af67cacc0017559b044b05aaef05094ad56e7fc16bb08", func := "redwax/redwaxlaw02.HmacKeys", spec := "hmacKeys", unfollowed := true, recurses := true, named := ["redwax/sha.starts", "redwax/sha.adds"], apart := false, laid := [("redwax/sha.starts", laid_redwax_sha_starts), ("redwax/sha.adds", laid_redwax_sha_adds)] }
def HmacKeysSaid : Prop := hmacKeysRow.holds Tryd.pinned (OpenSpec.ofChange hmacKeysSpec)

/-- ITS FALSE NEIGHBOUR: 'it returns false'. Refute it at one input. -/
def hmacKeysWrong : ChangeSpec := { name := "hmacKeys", fn := fun _ => fun
  | [d1, d2, d3] => { results := [.lit (.bool false)], args := [d1, d2, d3] }
  | _ => none }
def HmacKeysWrongFalsely : Prop := hmacKeysRow.holds Tryd.pinned (OpenSpec.ofChange hmacKeysWrong)

/-- 'redwaxlaw11.SealBuckets': WHATEVER THE INPUT: true; the input reads as it did. -/
def sealBucketsSpec : ChangeSpec := { name := "sealBuckets", fn := fun _ => fun
  | [d] => { results := [.lit (.bool true)], args := [d] }
  | _ => none }
def sealBucketsRow : OpenClaim := { program := "ytnoilogepkelaaadoor", sum := "24c37eefb7abbefb937af67cacc0017559b044b05aaef05094ad56e7fc16bb08", func := "redwax/redwaxlaw11.SealBuckets", spec := "sealBuckets", unfollowed := true, recurses := true, named := ["redwax/sha.starts", "redwax/sha.adds"], apart := false, laid := [("redwax/sha.starts", laid_redwax_sha_starts), ("redwax/sha.adds", laid_redwax_sha_adds)] }
def SealBucketsSaid : Prop := sealBucketsRow.holds Tryd.pinned (OpenSpec.ofChange sealBucketsSpec)

/-- ITS FALSE NEIGHBOUR: 'it returns false'. Refute it at one input. -/
def sealBucketsWrong : ChangeSpec := { name := "sealBuckets", fn := fun _ => fun
  | [d] => { results := [.lit (.bool false)], args := [d] }
  | _ => none }
def SealBucketsWrongFalsely : Prop := sealBucketsRow.holds Tryd.pinned (OpenSpec.ofChange sealBucketsWrong)

/-- 'redwaxlaw11.SealKnown': WHATEVER THE INPUT: true; the input reads as it did. -/
def sealKnownSpec : ChangeSpec := { name := "sealKnown", fn := fun _ => fun
  | [] => { results := [.lit (.bool true)], args := [] }
  | _ => none }
def sealKnownRow : OpenClaim := { program := "ytnoilogepkelaaadoor", sum := "24c37eefb7abbefb937af67cacc0017559b044b05aaef05094ad56e7fc16bb08", func := "redwax/redwaxlaw11.SealKnown", spec := "sealKnown", unfollowed := true, recurses := true, named := ["redwax/sha.starts", "redwax/sha.adds"], apart := false, laid := [("redwax/sha.starts", laid_redwax_sha_starts), ("redwax/sha.adds", laid_redwax_sha_adds)] }
def SealKnownSaid : Prop := sealKnownRow.holds Tryd.pinned (OpenSpec.ofChange sealKnownSpec)

/-- ITS FALSE NEIGHBOUR: 'it returns false'. Refute it at one input. -/
def sealKnownWrong : ChangeSpec := { name := "sealKnown", fn := fun _ => fun
  | [] => { results := [.lit (.bool false)], args := [] }
  | _ => none }
def SealKnownWrongFalsely : Prop := sealKnownRow.holds Tryd.pinned (OpenSpec.ofChange sealKnownWrong)

/-- 'redwaxlaw11.SealBack': WHATEVER THE INPUT: true; the input reads as it did. -/
def sealBackSpec : ChangeSpec := { name := "sealBack", fn := fun _ => fun
  | [d1, d2, d3] => { results := [.lit (.bool true)], args := [d1, d2, d3] }
  | _ => none }
def sealBackRow : OpenClaim := { program := "ytnoilogepkelaaadoor", sum := "24c37eefb7abbefb937af67cacc0017559b044b05aaef05094ad56e7fc16bb08", func := "redwax/redwaxlaw11.SealBack", spec := "sealBack", unfollowed := true, recurses := true, named := ["redwax/sha.starts", "redwax/sha.adds"], apart := false, laid := [("redwax/sha.starts", laid_redwax_sha_starts), ("redwax/sha.adds", laid_redwax_sha_adds)] }
def SealBackSaid : Prop := sealBackRow.holds Tryd.pinned (OpenSpec.ofChange sealBackSpec)

/-- ITS FALSE NEIGHBOUR: 'it returns false'. Refute it at one input. -/
def sealBackWrong : ChangeSpec := { name := "sealBack", fn := fun _ => fun
  | [d1, d2, d3] => { results := [.lit (.bool false)], args := [d1, d2, d3] }
  | _ => none }
def SealBackWrongFalsely : Prop := sealBackRow.holds Tryd.pinned (OpenSpec.ofChange sealBackWrong)

/-- 'redwaxlaw11.SealTags': WHATEVER THE INPUT: true; the input reads as it did. -/
def sealTagsSpec : ChangeSpec := { name := "sealTags", fn := fun _ => fun
  | [d1, d2, d3] => { results := [.lit (.bool true)], args := [d1, d2, d3] }
  | _ => none }
def sealTagsRow : OpenClaim := { program := "ytnoilogepkelaaadoor", sum := "24c37eefb7abbefb937af67cacc0017559b044b05aaef05094ad56e7fc16bb08", func := "redwax/redwaxlaw11.SealTags", spec := "sealTags", unfollowed := true, recurses := true, named := ["redwax/sha.starts", "redwax/sha.adds"], apart := false, laid := [("redwax/sha.starts", laid_redwax_sha_starts), ("redwax/sha.adds", laid_redwax_sha_adds)] }
def SealTagsSaid : Prop := sealTagsRow.holds Tryd.pinned (OpenSpec.ofChange sealTagsSpec)

/-- ITS FALSE NEIGHBOUR: 'it returns false'. Refute it at one input. -/
def sealTagsWrong : ChangeSpec := { name := "sealTags", fn := fun _ => fun
  | [d1, d2, d3] => { results := [.lit (.bool false)], args := [d1, d2, d3] }
  | _ => none }
def SealTagsWrongFalsely : Prop := sealTagsRow.holds Tryd.pinned (OpenSpec.ofChange sealTagsWrong)

/-- 'redwaxlaw11.SealSeals': WHATEVER THE INPUT: true; the input reads as it did. -/
def sealSealsSpec : ChangeSpec := { name := "sealSeals", fn := fun _ => fun
  | [d1, d2, d3] => { results := [.lit (.bool true)], args := [d1, d2, d3] }
  | _ => none }
def sealSealsRow : OpenClaim := { program := "ytnoilogepkelaaadoor", sum := "24c37eefb7abbefb937af67cacc0017559b044b05aaef05094ad56e7fc16bb08", func := "redwax/redwaxlaw11.SealSeals", spec := "sealSeals", unfollowed := true, recurses := true, named := ["redwax/sha.starts", "redwax/sha.adds"], apart := false, laid := [("redwax/sha.starts", laid_redwax_sha_starts), ("redwax/sha.adds", laid_redwax_sha_adds)] }
def SealSealsSaid : Prop := sealSealsRow.holds Tryd.pinned (OpenSpec.ofChange sealSealsSpec)

/-- ITS FALSE NEIGHBOUR: 'it returns false'. Refute it at one input. -/
def sealSealsWrong : ChangeSpec := { name := "sealSeals", fn := fun _ => fun
  | [d1, d2, d3] => { results := [.lit (.bool false)], args := [d1, d2, d3] }
  | _ => none }
def SealSealsWrongFalsely : Prop := sealSealsRow.holds Tryd.pinned (OpenSpec.ofChange sealSealsWrong)

/-- 'redwaxlaw11.SealOpens': WHATEVER THE INPUT: true; the input reads as it did. -/
def sealOpensSpec : ChangeSpec := { name := "sealOpens", fn := fun _ => fun
  | [d1, d2, d3] => { results := [.lit (.bool true)], args := [d1, d2, d3] }
  | _ => none }
def sealOpensRow : OpenClaim := { program := "ytnoilogepkelaaadoor", sum := "24c37eefb7abbefb937af67cacc0017559b044b05aaef05094ad56e7fc16bb08", func := "redwax/redwaxlaw11.SealOpens", spec := "sealOpens", unfollowed := true, recurses := true, named := ["redwax/sha.starts", "redwax/sha.adds"], apart := false, laid := [("redwax/sha.starts", laid_redwax_sha_starts), ("redwax/sha.adds", laid_redwax_sha_adds)] }
def SealOpensSaid : Prop := sealOpensRow.holds Tryd.pinned (OpenSpec.ofChange sealOpensSpec)

/-- ITS FALSE NEIGHBOUR: 'it returns false'. Refute it at one input. -/
def sealOpensWrong : ChangeSpec := { name := "sealOpens", fn := fun _ => fun
  | [d1, d2, d3] => { results := [.lit (.bool false)], args := [d1, d2, d3] }
  | _ => none }
def SealOpensWrongFalsely : Prop := sealOpensRow.holds Tryd.pinned (OpenSpec.ofChange sealOpensWrong)

/- THE SECOND FORM. 'bulk': how many values and letters a reading holds, each counted each time it is reached (what is shared counts as often as it is met; a slice's spare places count too). A statement '..UptoSaid' is the law's where the arguments, and the package variables that the reading takes, are together of bulk at most 1048576: NARROWER than '..Said'. Prove '..Said' where nothing that the law and all that it calls make is longer than what came in: it says more and counts as full. Else prove '..UptoSaid'. A law counts once. -/
mutual
def uptoBulk {H : Type} : DataW H → Nat
  | .lit (.string bytes) => bytes.length + 1
  | .lit _ => 1
  | .nil => 1
  | .ptr d => uptoBulk d + 1
  | .slice elems spare => uptoBulkAll elems + uptoBulkAll spare + 1
  | .agg parts => uptoBulkAll parts + 1
  | .iface _ d => uptoBulk d + 1
  | .map entries => uptoBulkEntries entries + 1
  | .held _ => 1
def uptoBulkAll {H : Type} : List (DataW H) → Nat
  | [] => 0
  | d :: r => uptoBulk d + uptoBulkAll r
def uptoBulkEntries {H : Type} : List (Lit × DataW H) → Nat
  | [] => 0
  | x :: r => uptoBulkEntry x + uptoBulkEntries r
def uptoBulkEntry {H : Type} : Lit × DataW H → Nat
  | (.string bytes, d) => bytes.length + uptoBulk d + 1
  | (_, d) => uptoBulk d + 1
 end
def uptoSmall : (H : Type) → List (DataW H) → Bool := fun _ ds => decide (uptoBulkAll ds ≤ 1048576)
def OpenSpec.upto (s : _root_.Go.ChangeSpec) : _root_.Go.OpenSpec := { _root_.Go.OpenSpec.ofChange s with cond := some uptoSmall }

/-- 'redwaxlaw01.ShaFolds', WHERE WHAT IT READS IS OF BULK AT MOST 1048576: true; the input reads as it did. -/
def shaFoldsUptoRow : OpenClaim := { program := "ytnoilogepkelaaadoor", sum := "24c37eefb7abbefb937af67cacc0017559b044b05aaef05094ad56e7fc16bb08", func := "redwax/redwaxlaw01.ShaFolds", spec := "shaFolds", unfollowed := true, recurses := true, named := ["redwax/sha.starts", "redwax/sha.adds"], apart := false, laid := [("redwax/sha.starts", laid_redwax_sha_starts), ("redwax/sha.adds", laid_redwax_sha_adds)], narrowed := true }
def ShaFoldsUptoSaid : Prop := shaFoldsUptoRow.holds Tryd.pinned (OpenSpec.upto shaFoldsSpec)

/-- 'redwaxlaw01.ShaAnybody', WHERE WHAT IT READS IS OF BULK AT MOST 1048576: true; the input reads as it did. -/
def shaAnybodyUptoRow : OpenClaim := { program := "ytnoilogepkelaaadoor", sum := "24c37eefb7abbefb937af67cacc0017559b044b05aaef05094ad56e7fc16bb08", func := "redwax/redwaxlaw01.ShaAnybody", spec := "shaAnybody", unfollowed := true, recurses := true, named := ["redwax/sha.starts", "redwax/sha.adds"], apart := false, laid := [("redwax/sha.starts", laid_redwax_sha_starts), ("redwax/sha.adds", laid_redwax_sha_adds)], narrowed := true }
def ShaAnybodyUptoSaid : Prop := shaAnybodyUptoRow.holds Tryd.pinned (OpenSpec.upto shaAnybodySpec)

/-- 'redwaxlaw01.ShaMixes', WHERE WHAT IT READS IS OF BULK AT MOST 1048576: true; the input reads as it did. -/
def shaMixesUptoRow : OpenClaim := { program := "ytnoilogepkelaaadoor", sum := "24c37eefb7abbefb937af67cacc0017559b044b05aaef05094ad56e7fc16bb08", func := "redwax/redwaxlaw01.ShaMixes", spec := "shaMixes", unfollowed := true, recurses := true, named := ["redwax/sha.starts", "redwax/sha.adds"], apart := false, laid := [("redwax/sha.starts", laid_redwax_sha_starts), ("redwax/sha.adds", laid_redwax_sha_adds)], narrowed := true }
def ShaMixesUptoSaid : Prop := shaMixesUptoRow.holds Tryd.pinned (OpenSpec.upto shaMixesSpec)

/-- 'redwaxlaw01.ShaDigests', WHERE WHAT IT READS IS OF BULK AT MOST 1048576: true; the input reads as it did. -/
def shaDigestsUptoRow : OpenClaim := { program := "ytnoilogepkelaaadoor", sum := "24c37eefb7abbefb937af67cacc0017559b044b05aaef05094ad56e7fc16bb08", func := "redwax/redwaxlaw01.ShaDigests", spec := "shaDigests", unfollowed := true, recurses := true, named := ["redwax/sha.starts", "redwax/sha.adds"], apart := false, laid := [("redwax/sha.starts", laid_redwax_sha_starts), ("redwax/sha.adds", laid_redwax_sha_adds)], narrowed := true }
def ShaDigestsUptoSaid : Prop := shaDigestsUptoRow.holds Tryd.pinned (OpenSpec.upto shaDigestsSpec)

/-- 'redwaxlaw01.ShaWords', WHERE WHAT IT READS IS OF BULK AT MOST 1048576: true; the input reads as it did. -/
def shaWordsUptoRow : OpenClaim := { program := "ytnoilogepkelaaadoor", sum := "24c37eefb7abbefb937af67cacc0017559b044b05aaef05094ad56e7fc16bb08", func := "redwax/redwaxlaw01.ShaWords", spec := "shaWords", unfollowed := true, recurses := true, named := ["redwax/sha.starts", "redwax/sha.adds"], apart := false, laid := [("redwax/sha.starts", laid_redwax_sha_starts), ("redwax/sha.adds", laid_redwax_sha_adds)], narrowed := true }
def ShaWordsUptoSaid : Prop := shaWordsUptoRow.holds Tryd.pinned (OpenSpec.upto shaWordsSpec)

/-- 'redwaxlaw01.ShaTurned', WHERE WHAT IT READS IS OF BULK AT MOST 1048576: true; the input reads as it did. -/
def shaTurnedUptoRow : OpenClaim := { program := "ytnoilogepkelaaadoor", sum := "24c37eefb7abbefb937af67cacc0017559b044b05aaef05094ad56e7fc16bb08", func := "redwax/redwaxlaw01.ShaTurned", spec := "shaTurned", unfollowed := true, recurses := true, named := ["redwax/sha.starts", "redwax/sha.adds"], apart := false, laid := [("redwax/sha.starts", laid_redwax_sha_starts), ("redwax/sha.adds", laid_redwax_sha_adds)], narrowed := true }
def ShaTurnedUptoSaid : Prop := shaTurnedUptoRow.holds Tryd.pinned (OpenSpec.upto shaTurnedSpec)

/-- 'redwaxlaw01.ShaGoesOn', WHERE WHAT IT READS IS OF BULK AT MOST 1048576: true; the input reads as it did. -/
def shaGoesOnUptoRow : OpenClaim := { program := "ytnoilogepkelaaadoor", sum := "24c37eefb7abbefb937af67cacc0017559b044b05aaef05094ad56e7fc16bb08", func := "redwax/redwaxlaw01.ShaGoesOn", spec := "shaGoesOn", unfollowed := true, recurses := true, named := ["redwax/sha.starts", "redwax/sha.adds"], apart := false, laid := [("redwax/sha.starts", laid_redwax_sha_starts), ("redwax/sha.adds", laid_redwax_sha_adds)], narrowed := true }
def ShaGoesOnUptoSaid : Prop := shaGoesOnUptoRow.holds Tryd.pinned (OpenSpec.upto shaGoesOnSpec)

/-- 'redwaxlaw01.ShaKnown', WHERE WHAT IT READS IS OF BULK AT MOST 1048576: true; the input reads as it did. -/
def shaKnownUptoRow : OpenClaim := { program := "ytnoilogepkelaaadoor", sum := "24c37eefb7abbefb937af67cacc0017559b044b05aaef05094ad56e7fc16bb08", func := "redwax/redwaxlaw01.ShaKnown", spec := "shaKnown", unfollowed := true, recurses := true, named := ["redwax/sha.starts", "redwax/sha.adds"], apart := false, laid := [("redwax/sha.starts", laid_redwax_sha_starts), ("redwax/sha.adds", laid_redwax_sha_adds)], narrowed := true }
def ShaKnownUptoSaid : Prop := shaKnownUptoRow.holds Tryd.pinned (OpenSpec.upto shaKnownSpec)

/-- 'redwaxlaw02.HmacPads', WHERE WHAT IT READS IS OF BULK AT MOST 1048576: true; the input reads as it did. -/
def hmacPadsUptoRow : OpenClaim := { program := "ytnoilogepkelaaadoor", sum := "24c37eefb7abbefb937af67cacc0017559b044b05aaef05094ad56e7fc16bb08", func := "redwax/redwaxlaw02.HmacPads", spec := "hmacPads", unfollowed := true, recurses := true, named := ["redwax/sha.starts", "redwax/sha.adds"], apart := false, laid := [("redwax/sha.starts", laid_redwax_sha_starts), ("redwax/sha.adds", laid_redwax_sha_adds)], narrowed := true }
def HmacPadsUptoSaid : Prop := hmacPadsUptoRow.holds Tryd.pinned (OpenSpec.upto hmacPadsSpec)

/-- 'redwaxlaw02.HmacEqual', WHERE WHAT IT READS IS OF BULK AT MOST 1048576: true; the input reads as it did. -/
def hmacEqualUptoRow : OpenClaim := { program := "ytnoilogepkelaaadoor", sum := "24c37eefb7abbefb937af67cacc0017559b044b05aaef05094ad56e7fc16bb08", func := "redwax/redwaxlaw02.HmacEqual", spec := "hmacEqual", unfollowed := true, recurses := true, named := ["redwax/sha.starts", "redwax/sha.adds"], apart := false, laid := [("redwax/sha.starts", laid_redwax_sha_starts), ("redwax/sha.adds", laid_redwax_sha_adds)], narrowed := true }
def HmacEqualUptoSaid : Prop := hmacEqualUptoRow.holds Tryd.pinned (OpenSpec.upto hmacEqualSpec)

/-- 'redwaxlaw02.HmacKnown', WHERE WHAT IT READS IS OF BULK AT MOST 1048576: true; the input reads as it did. -/
def hmacKnownUptoRow : OpenClaim := { program := "ytnoilogepkelaaadoor", sum := "24c37eefb7abbefb937af67cacc0017559b044b05aaef05094ad56e7fc16bb08", func := "redwax/redwaxlaw02.HmacKnown", spec := "hmacKnown", unfollowed := true, recurses := true, named := ["redwax/sha.starts", "redwax/sha.adds"], apart := false, laid := [("redwax/sha.starts", laid_redwax_sha_starts), ("redwax/sha.adds", laid_redwax_sha_adds)], narrowed := true }
def HmacKnownUptoSaid : Prop := hmacKnownUptoRow.holds Tryd.pinned (OpenSpec.upto hmacKnownSpec)

/-- 'redwaxlaw02.HmacApart', WHERE WHAT IT READS IS OF BULK AT MOST 1048576: true; the input reads as it did. -/
def hmacApartUptoRow : OpenClaim := { program := "ytnoilogepkelaaadoor", sum := "24c37eefb7abbefb937af67cacc0017559b044b05aaef05094ad56e7fc16bb08", func := "redwax/redwaxlaw02.HmacApart", spec := "hmacApart", unfollowed := true, recurses := true, named := ["redwax/sha.starts", "redwax/sha.adds"], apart := false, laid := [("redwax/sha.starts", laid_redwax_sha_starts), ("redwax/sha.adds", laid_redwax_sha_adds)], narrowed := true }
def HmacApartUptoSaid : Prop := hmacApartUptoRow.holds Tryd.pinned (OpenSpec.upto hmacApartSpec)

/-- 'redwaxlaw02.HmacTags', WHERE WHAT IT READS IS OF BULK AT MOST 1048576: true; the input reads as it did. -/
def hmacTagsUptoRow : OpenClaim := { program := "ytnoilogepkelaaadoor", sum := "24c37eefb7abbefb937af67cacc0017559b044b05aaef05094ad56e7fc16bb08", func := "redwax/redwaxlaw02.HmacTags", spec := "hmacTags", unfollowed := true, recurses := true, named := ["redwax/sha.starts", "redwax/sha.adds"], apart := false, laid := [("redwax/sha.starts", laid_redwax_sha_starts), ("redwax/sha.adds", laid_redwax_sha_adds)], narrowed := true }
def HmacTagsUptoSaid : Prop := hmacTagsUptoRow.holds Tryd.pinned (OpenSpec.upto hmacTagsSpec)

/-- 'redwaxlaw02.HmacKeys', WHERE WHAT IT READS IS OF BULK AT MOST 1048576: true; the input reads as it did. -/
def hmacKeysUptoRow : OpenClaim := { program := "ytnoilogepkelaaadoor", sum := "24c37eefb7abbefb937af67cacc0017559b044b05aaef05094ad56e7fc16bb08", func := "redwax/redwaxlaw02.HmacKeys", spec := "hmacKeys", unfollowed := true, recurses := true, named := ["redwax/sha.starts", "redwax/sha.adds"], apart := false, laid := [("redwax/sha.starts", laid_redwax_sha_starts), ("redwax/sha.adds", laid_redwax_sha_adds)], narrowed := true }
def HmacKeysUptoSaid : Prop := hmacKeysUptoRow.holds Tryd.pinned (OpenSpec.upto hmacKeysSpec)

/-- 'redwaxlaw11.SealBuckets', WHERE WHAT IT READS IS OF BULK AT MOST 1048576: true; the input reads as it did. -/
def sealBucketsUptoRow : OpenClaim := { program := "ytnoilogepkelaaadoor", sum := "24c37eefb7abbefb937af67cacc0017559b044b05aaef05094ad56e7fc16bb08", func := "redwax/redwaxlaw11.SealBuckets", spec := "sealBuckets", unfollowed := true, recurses := true, named := ["redwax/sha.starts", "redwax/sha.adds"], apart := false, laid := [("redwax/sha.starts", laid_redwax_sha_starts), ("redwax/sha.adds", laid_redwax_sha_adds)], narrowed := true }
def SealBucketsUptoSaid : Prop := sealBucketsUptoRow.holds Tryd.pinned (OpenSpec.upto sealBucketsSpec)

/-- 'redwaxlaw11.SealKnown', WHERE WHAT IT READS IS OF BULK AT MOST 1048576: true; the input reads as it did. -/
def sealKnownUptoRow : OpenClaim := { program := "ytnoilogepkelaaadoor", sum := "24c37eefb7abbefb937af67cacc0017559b044b05aaef05094ad56e7fc16bb08", func := "redwax/redwaxlaw11.SealKnown", spec := "sealKnown", unfollowed := true, recurses := true, named := ["redwax/sha.starts", "redwax/sha.adds"], apart := false, laid := [("redwax/sha.starts", laid_redwax_sha_starts), ("redwax/sha.adds", laid_redwax_sha_adds)], narrowed := true }
def SealKnownUptoSaid : Prop := sealKnownUptoRow.holds Tryd.pinned (OpenSpec.upto sealKnownSpec)

/-- 'redwaxlaw11.SealBack', WHERE WHAT IT READS IS OF BULK AT MOST 1048576: true; the input reads as it did. -/
def sealBackUptoRow : OpenClaim := { program := "ytnoilogepkelaaadoor", sum := "24c37eefb7abbefb937af67cacc0017559b044b05aaef05094ad56e7fc16bb08", func := "redwax/redwaxlaw11.SealBack", spec := "sealBack", unfollowed := true, recurses := true, named := ["redwax/sha.starts", "redwax/sha.adds"], apart := false, laid := [("redwax/sha.starts", laid_redwax_sha_starts), ("redwax/sha.adds", laid_redwax_sha_adds)], narrowed := true }
def SealBackUptoSaid : Prop := sealBackUptoRow.holds Tryd.pinned (OpenSpec.upto sealBackSpec)

/-- 'redwaxlaw11.SealTags', WHERE WHAT IT READS IS OF BULK AT MOST 1048576: true; the input reads as it did. -/
def sealTagsUptoRow : OpenClaim := { program := "ytnoilogepkelaaadoor", sum := "24c37eefb7abbefb937af67cacc0017559b044b05aaef05094ad56e7fc16bb08", func := "redwax/redwaxlaw11.SealTags", spec := "sealTags", unfollowed := true, recurses := true, named := ["redwax/sha.starts", "redwax/sha.adds"], apart := false, laid := [("redwax/sha.starts", laid_redwax_sha_starts), ("redwax/sha.adds", laid_redwax_sha_adds)], narrowed := true }
def SealTagsUptoSaid : Prop := sealTagsUptoRow.holds Tryd.pinned (OpenSpec.upto sealTagsSpec)

/-- 'redwaxlaw11.SealSeals', WHERE WHAT IT READS IS OF BULK AT MOST 1048576: true; the input reads as it did. -/
def sealSealsUptoRow : OpenClaim := { program := "ytnoilogepkelaaadoor", sum := "24c37eefb7abbefb937af67cacc0017559b044b05aaef05094ad56e7fc16bb08", func := "redwax/redwaxlaw11.SealSeals", spec := "sealSeals", unfollowed := true, recurses := true, named := ["redwax/sha.starts", "redwax/sha.adds"], apart := false, laid := [("redwax/sha.starts", laid_redwax_sha_starts), ("redwax/sha.adds", laid_redwax_sha_adds)], narrowed := true }
def SealSealsUptoSaid : Prop := sealSealsUptoRow.holds Tryd.pinned (OpenSpec.upto sealSealsSpec)

/-- 'redwaxlaw11.SealOpens', WHERE WHAT IT READS IS OF BULK AT MOST 1048576: true; the input reads as it did. -/
def sealOpensUptoRow : OpenClaim := { program := "ytnoilogepkelaaadoor", sum := "24c37eefb7abbefb937af67cacc0017559b044b05aaef05094ad56e7fc16bb08", func := "redwax/redwaxlaw11.SealOpens", spec := "sealOpens", unfollowed := true, recurses := true, named := ["redwax/sha.starts", "redwax/sha.adds"], apart := false, laid := [("redwax/sha.starts", laid_redwax_sha_starts), ("redwax/sha.adds", laid_redwax_sha_adds)], narrowed := true }
def SealOpensUptoSaid : Prop := sealOpensUptoRow.holds Tryd.pinned (OpenSpec.upto sealOpensSpec)

end Rows
end Go.Proofs.YtnoilogepkelaaaDoor
