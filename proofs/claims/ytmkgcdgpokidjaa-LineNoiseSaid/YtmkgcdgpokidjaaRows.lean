/-
  No cell of these rows narrows 'for every input' (looked for: loops, veiled, ifaces, maps, wideKeys, modest, calm, conditions, laid).
  DERIVED. THE GIVEN ROWS OF THIS SEAT. 39 by the template 'for every input the law returns true; each argument reads behind the call as it read before'; 0 by the template 'total and deterministic' (their statements: YtmkgcdgpokidjaaTotals.lean).
  GIVEN WITH THE SEED: the statements are not yours to turn. If you find one false, say at which input.
  Laid BY PROGRAM, IN A SANDBOX (cutbox-rows.mjs): the forced cells as the released guide's own fill.sh prints them over the translation efa08d9201fed58f… (all of the seat's roots in one cut). By AI agents, Wed Nov 11 2026. No macro, syntax, notation, axiom, sorry.
-/
import Derived.Test.YtmkgcdgpokidjaaChecked
import GoSem.Claim
import GoSem.ClaimJoined
import GoSem.ClaimMapViews
import Derived.JoinedTies
import Derived.KernelRfl
namespace Go.Proofs.Ytmkgcdgpokidjaa
/- THE CELL 'sum', in the pinned program and in every row, IS THE sha256 OF THE DUMP (.gsa) THAT YtmkgcdgpokidjaaProg.lean LOADS. Nothing in Lean hashes anything: it is a label: what it is worth is what the hold of that sum in a sandbox is worth. -/
noncomputable def Try.pinned : Pinned := { name := "ytmkgcdgpokidjaa", sum := "efa08d9201fed58fa613d1525673e2183e796536d8896ff9bf9673f288831aa8", checked := Try.checked }
namespace Rows
def none {H : Type} : Left H := { results := [], args := [] }

/-- 'consolslaw8.MailOrder': WHATEVER THE INPUT: true; the input reads as it did. -/
def mailOrderSpec : ChangeSpec := { name := "mailOrder", fn := fun _ => fun
  | [d1, d2] => { results := [.lit (.bool true)], args := [d1, d2] }
  | _ => none }
def mailOrderRow : OpenClaim := { program := "ytmkgcdgpokidjaa", sum := "efa08d9201fed58fa613d1525673e2183e796536d8896ff9bf9673f288831aa8", func := "consols/consolslaw8.MailOrder", spec := "mailOrder", apart := false }
def MailOrderSaid : Prop := mailOrderRow.holds Try.pinned (OpenSpec.ofChange mailOrderSpec)

/-- ITS FALSE NEIGHBOUR: 'it returns false'. Refute it at one input. -/
def mailOrderWrong : ChangeSpec := { name := "mailOrder", fn := fun _ => fun
  | [d1, d2] => { results := [.lit (.bool false)], args := [d1, d2] }
  | _ => none }
def MailOrderWrongFalsely : Prop := mailOrderRow.holds Try.pinned (OpenSpec.ofChange mailOrderWrong)

/-- 'consolslaw8.MailFirsts': WHATEVER THE INPUT: true; the input reads as it did. -/
def mailFirstsSpec : ChangeSpec := { name := "mailFirsts", fn := fun _ => fun
  | [d] => { results := [.lit (.bool true)], args := [d] }
  | _ => none }
def mailFirstsRow : OpenClaim := { program := "ytmkgcdgpokidjaa", sum := "efa08d9201fed58fa613d1525673e2183e796536d8896ff9bf9673f288831aa8", func := "consols/consolslaw8.MailFirsts", spec := "mailFirsts", apart := false }
def MailFirstsSaid : Prop := mailFirstsRow.holds Try.pinned (OpenSpec.ofChange mailFirstsSpec)

/-- ITS FALSE NEIGHBOUR: 'it returns false'. Refute it at one input. -/
def mailFirstsWrong : ChangeSpec := { name := "mailFirsts", fn := fun _ => fun
  | [d] => { results := [.lit (.bool false)], args := [d] }
  | _ => none }
def MailFirstsWrongFalsely : Prop := mailFirstsRow.holds Try.pinned (OpenSpec.ofChange mailFirstsWrong)

/-- 'consolslaw9.KeepPlays': WHATEVER THE INPUT: true; the input reads as it did. -/
def keepPlaysSpec : ChangeSpec := { name := "keepPlays", fn := fun _ => fun
  | [d1, d2] => { results := [.lit (.bool true)], args := [d1, d2] }
  | _ => none }
def keepPlaysRow : OpenClaim := { program := "ytmkgcdgpokidjaa", sum := "efa08d9201fed58fa613d1525673e2183e796536d8896ff9bf9673f288831aa8", func := "consols/consolslaw9.KeepPlays", spec := "keepPlays", apart := false }
def KeepPlaysSaid : Prop := keepPlaysRow.holds Try.pinned (OpenSpec.ofChange keepPlaysSpec)

/-- ITS FALSE NEIGHBOUR: 'it returns false'. Refute it at one input. -/
def keepPlaysWrong : ChangeSpec := { name := "keepPlays", fn := fun _ => fun
  | [d1, d2] => { results := [.lit (.bool false)], args := [d1, d2] }
  | _ => none }
def KeepPlaysWrongFalsely : Prop := keepPlaysRow.holds Try.pinned (OpenSpec.ofChange keepPlaysWrong)

/-- 'consolslaw9.KeepLast': WHATEVER THE INPUT: true; the input reads as it did. -/
def keepLastSpec : ChangeSpec := { name := "keepLast", fn := fun _ => fun
  | [d1, d2] => { results := [.lit (.bool true)], args := [d1, d2] }
  | _ => none }
def keepLastRow : OpenClaim := { program := "ytmkgcdgpokidjaa", sum := "efa08d9201fed58fa613d1525673e2183e796536d8896ff9bf9673f288831aa8", func := "consols/consolslaw9.KeepLast", spec := "keepLast", apart := false }
def KeepLastSaid : Prop := keepLastRow.holds Try.pinned (OpenSpec.ofChange keepLastSpec)

/-- ITS FALSE NEIGHBOUR: 'it returns false'. Refute it at one input. -/
def keepLastWrong : ChangeSpec := { name := "keepLast", fn := fun _ => fun
  | [d1, d2] => { results := [.lit (.bool false)], args := [d1, d2] }
  | _ => none }
def KeepLastWrongFalsely : Prop := keepLastRow.holds Try.pinned (OpenSpec.ofChange keepLastWrong)

/-- 'consolslaw9.KeepOwn': WHATEVER THE INPUT: true; the input reads as it did. -/
def keepOwnSpec : ChangeSpec := { name := "keepOwn", fn := fun _ => fun
  | [d1, d2] => { results := [.lit (.bool true)], args := [d1, d2] }
  | _ => none }
def keepOwnRow : OpenClaim := { program := "ytmkgcdgpokidjaa", sum := "efa08d9201fed58fa613d1525673e2183e796536d8896ff9bf9673f288831aa8", func := "consols/consolslaw9.KeepOwn", spec := "keepOwn", apart := false }
def KeepOwnSaid : Prop := keepOwnRow.holds Try.pinned (OpenSpec.ofChange keepOwnSpec)

/-- ITS FALSE NEIGHBOUR: 'it returns false'. Refute it at one input. -/
def keepOwnWrong : ChangeSpec := { name := "keepOwn", fn := fun _ => fun
  | [d1, d2] => { results := [.lit (.bool false)], args := [d1, d2] }
  | _ => none }
def KeepOwnWrongFalsely : Prop := keepOwnRow.holds Try.pinned (OpenSpec.ofChange keepOwnWrong)

/-- 'consolslaw8.MailPlays': WHATEVER THE INPUT: true; the input reads as it did. -/
def mailPlaysSpec : ChangeSpec := { name := "mailPlays", fn := fun _ => fun
  | [d1, d2] => { results := [.lit (.bool true)], args := [d1, d2] }
  | _ => none }
def mailPlaysRow : OpenClaim := { program := "ytmkgcdgpokidjaa", sum := "efa08d9201fed58fa613d1525673e2183e796536d8896ff9bf9673f288831aa8", func := "consols/consolslaw8.MailPlays", spec := "mailPlays", apart := false }
def MailPlaysSaid : Prop := mailPlaysRow.holds Try.pinned (OpenSpec.ofChange mailPlaysSpec)

/-- ITS FALSE NEIGHBOUR: 'it returns false'. Refute it at one input. -/
def mailPlaysWrong : ChangeSpec := { name := "mailPlays", fn := fun _ => fun
  | [d1, d2] => { results := [.lit (.bool false)], args := [d1, d2] }
  | _ => none }
def MailPlaysWrongFalsely : Prop := mailPlaysRow.holds Try.pinned (OpenSpec.ofChange mailPlaysWrong)

/-- 'consolslaw8.MailOwn': WHATEVER THE INPUT: true; the input reads as it did. -/
def mailOwnSpec : ChangeSpec := { name := "mailOwn", fn := fun _ => fun
  | [d1, d2] => { results := [.lit (.bool true)], args := [d1, d2] }
  | _ => none }
def mailOwnRow : OpenClaim := { program := "ytmkgcdgpokidjaa", sum := "efa08d9201fed58fa613d1525673e2183e796536d8896ff9bf9673f288831aa8", func := "consols/consolslaw8.MailOwn", spec := "mailOwn", apart := false }
def MailOwnSaid : Prop := mailOwnRow.holds Try.pinned (OpenSpec.ofChange mailOwnSpec)

/-- ITS FALSE NEIGHBOUR: 'it returns false'. Refute it at one input. -/
def mailOwnWrong : ChangeSpec := { name := "mailOwn", fn := fun _ => fun
  | [d1, d2] => { results := [.lit (.bool false)], args := [d1, d2] }
  | _ => none }
def MailOwnWrongFalsely : Prop := mailOwnRow.holds Try.pinned (OpenSpec.ofChange mailOwnWrong)

/-- 'consolslaw3.PackPuts': WHATEVER THE INPUT: true; the input reads as it did. -/
def packPutsSpec : ChangeSpec := { name := "packPuts", fn := fun _ => fun
  | [d] => { results := [.lit (.bool true)], args := [d] }
  | _ => none }
def packPutsRow : OpenClaim := { program := "ytmkgcdgpokidjaa", sum := "efa08d9201fed58fa613d1525673e2183e796536d8896ff9bf9673f288831aa8", func := "consols/consolslaw3.PackPuts", spec := "packPuts", unfollowed := true, recurses := true, apart := false }
def PackPutsSaid : Prop := packPutsRow.holds Try.pinned (OpenSpec.ofChange packPutsSpec)

/-- ITS FALSE NEIGHBOUR: 'it returns false'. Refute it at one input. -/
def packPutsWrong : ChangeSpec := { name := "packPuts", fn := fun _ => fun
  | [d] => { results := [.lit (.bool false)], args := [d] }
  | _ => none }
def PackPutsWrongFalsely : Prop := packPutsRow.holds Try.pinned (OpenSpec.ofChange packPutsWrong)

/-- 'consolslaw3.PackGets': WHATEVER THE INPUT: true; the input reads as it did. -/
def packGetsSpec : ChangeSpec := { name := "packGets", fn := fun _ => fun
  | [d1, d2] => { results := [.lit (.bool true)], args := [d1, d2] }
  | _ => none }
def packGetsRow : OpenClaim := { program := "ytmkgcdgpokidjaa", sum := "efa08d9201fed58fa613d1525673e2183e796536d8896ff9bf9673f288831aa8", func := "consols/consolslaw3.PackGets", spec := "packGets", unfollowed := true, recurses := true, apart := false }
def PackGetsSaid : Prop := packGetsRow.holds Try.pinned (OpenSpec.ofChange packGetsSpec)

/-- ITS FALSE NEIGHBOUR: 'it returns false'. Refute it at one input. -/
def packGetsWrong : ChangeSpec := { name := "packGets", fn := fun _ => fun
  | [d1, d2] => { results := [.lit (.bool false)], args := [d1, d2] }
  | _ => none }
def PackGetsWrongFalsely : Prop := packGetsRow.holds Try.pinned (OpenSpec.ofChange packGetsWrong)

/-- 'consolslaw3.PackCut': WHATEVER THE INPUT: true; the input reads as it did. -/
def packCutSpec : ChangeSpec := { name := "packCut", fn := fun _ => fun
  | [d] => { results := [.lit (.bool true)], args := [d] }
  | _ => none }
def packCutRow : OpenClaim := { program := "ytmkgcdgpokidjaa", sum := "efa08d9201fed58fa613d1525673e2183e796536d8896ff9bf9673f288831aa8", func := "consols/consolslaw3.PackCut", spec := "packCut", unfollowed := true, recurses := true, apart := false }
def PackCutSaid : Prop := packCutRow.holds Try.pinned (OpenSpec.ofChange packCutSpec)

/-- ITS FALSE NEIGHBOUR: 'it returns false'. Refute it at one input. -/
def packCutWrong : ChangeSpec := { name := "packCut", fn := fun _ => fun
  | [d] => { results := [.lit (.bool false)], args := [d] }
  | _ => none }
def PackCutWrongFalsely : Prop := packCutRow.holds Try.pinned (OpenSpec.ofChange packCutWrong)

/-- 'consolslaw3.PackJoin': WHATEVER THE INPUT: true; the input reads as it did. -/
def packJoinSpec : ChangeSpec := { name := "packJoin", fn := fun _ => fun
  | [d1, d2] => { results := [.lit (.bool true)], args := [d1, d2] }
  | _ => none }
def packJoinRow : OpenClaim := { program := "ytmkgcdgpokidjaa", sum := "efa08d9201fed58fa613d1525673e2183e796536d8896ff9bf9673f288831aa8", func := "consols/consolslaw3.PackJoin", spec := "packJoin", unfollowed := true, recurses := true, apart := false }
def PackJoinSaid : Prop := packJoinRow.holds Try.pinned (OpenSpec.ofChange packJoinSpec)

/-- ITS FALSE NEIGHBOUR: 'it returns false'. Refute it at one input. -/
def packJoinWrong : ChangeSpec := { name := "packJoin", fn := fun _ => fun
  | [d1, d2] => { results := [.lit (.bool false)], args := [d1, d2] }
  | _ => none }
def PackJoinWrongFalsely : Prop := packJoinRow.holds Try.pinned (OpenSpec.ofChange packJoinWrong)

/-- 'consolslaw3.PackKnown': WHATEVER THE INPUT: true; the input reads as it did. -/
def packKnownSpec : ChangeSpec := { name := "packKnown", fn := fun _ => fun
  | [d] => { results := [.lit (.bool true)], args := [d] }
  | _ => none }
def packKnownRow : OpenClaim := { program := "ytmkgcdgpokidjaa", sum := "efa08d9201fed58fa613d1525673e2183e796536d8896ff9bf9673f288831aa8", func := "consols/consolslaw3.PackKnown", spec := "packKnown", unfollowed := true, recurses := true, apart := false }
def PackKnownSaid : Prop := packKnownRow.holds Try.pinned (OpenSpec.ofChange packKnownSpec)

/-- ITS FALSE NEIGHBOUR: 'it returns false'. Refute it at one input. -/
def packKnownWrong : ChangeSpec := { name := "packKnown", fn := fun _ => fun
  | [d] => { results := [.lit (.bool false)], args := [d] }
  | _ => none }
def PackKnownWrongFalsely : Prop := packKnownRow.holds Try.pinned (OpenSpec.ofChange packKnownWrong)

/-- 'consolslaw3.PackOdd': WHATEVER THE INPUT: true; the input reads as it did. -/
def packOddSpec : ChangeSpec := { name := "packOdd", fn := fun _ => fun
  | [d] => { results := [.lit (.bool true)], args := [d] }
  | _ => none }
def packOddRow : OpenClaim := { program := "ytmkgcdgpokidjaa", sum := "efa08d9201fed58fa613d1525673e2183e796536d8896ff9bf9673f288831aa8", func := "consols/consolslaw3.PackOdd", spec := "packOdd", unfollowed := true, recurses := true, apart := false }
def PackOddSaid : Prop := packOddRow.holds Try.pinned (OpenSpec.ofChange packOddSpec)

/-- ITS FALSE NEIGHBOUR: 'it returns false'. Refute it at one input. -/
def packOddWrong : ChangeSpec := { name := "packOdd", fn := fun _ => fun
  | [d] => { results := [.lit (.bool false)], args := [d] }
  | _ => none }
def PackOddWrongFalsely : Prop := packOddRow.holds Try.pinned (OpenSpec.ofChange packOddWrong)

/-- 'consolslaw3.PackOwn': WHATEVER THE INPUT: true; the input reads as it did. -/
def packOwnSpec : ChangeSpec := { name := "packOwn", fn := fun _ => fun
  | [d] => { results := [.lit (.bool true)], args := [d] }
  | _ => none }
def packOwnRow : OpenClaim := { program := "ytmkgcdgpokidjaa", sum := "efa08d9201fed58fa613d1525673e2183e796536d8896ff9bf9673f288831aa8", func := "consols/consolslaw3.PackOwn", spec := "packOwn", unfollowed := true, recurses := true, apart := false }
def PackOwnSaid : Prop := packOwnRow.holds Try.pinned (OpenSpec.ofChange packOwnSpec)

/-- ITS FALSE NEIGHBOUR: 'it returns false'. Refute it at one input. -/
def packOwnWrong : ChangeSpec := { name := "packOwn", fn := fun _ => fun
  | [d] => { results := [.lit (.bool false)], args := [d] }
  | _ => none }
def PackOwnWrongFalsely : Prop := packOwnRow.holds Try.pinned (OpenSpec.ofChange packOwnWrong)

/-- 'consolslaw6.FramePuts': WHATEVER THE INPUT: true; the input reads as it did. -/
def framePutsSpec : ChangeSpec := { name := "framePuts", fn := fun _ => fun
  | [d1, d2] => { results := [.lit (.bool true)], args := [d1, d2] }
  | _ => none }
def framePutsRow : OpenClaim := { program := "ytmkgcdgpokidjaa", sum := "efa08d9201fed58fa613d1525673e2183e796536d8896ff9bf9673f288831aa8", func := "consols/consolslaw6.FramePuts", spec := "framePuts", apart := false }
def FramePutsSaid : Prop := framePutsRow.holds Try.pinned (OpenSpec.ofChange framePutsSpec)

/-- ITS FALSE NEIGHBOUR: 'it returns false'. Refute it at one input. -/
def framePutsWrong : ChangeSpec := { name := "framePuts", fn := fun _ => fun
  | [d1, d2] => { results := [.lit (.bool false)], args := [d1, d2] }
  | _ => none }
def FramePutsWrongFalsely : Prop := framePutsRow.holds Try.pinned (OpenSpec.ofChange framePutsWrong)

/-- 'consolslaw6.FrameGets': WHATEVER THE INPUT: true; the input reads as it did. -/
def frameGetsSpec : ChangeSpec := { name := "frameGets", fn := fun _ => fun
  | [d] => { results := [.lit (.bool true)], args := [d] }
  | _ => none }
def frameGetsRow : OpenClaim := { program := "ytmkgcdgpokidjaa", sum := "efa08d9201fed58fa613d1525673e2183e796536d8896ff9bf9673f288831aa8", func := "consols/consolslaw6.FrameGets", spec := "frameGets", apart := false }
def FrameGetsSaid : Prop := frameGetsRow.holds Try.pinned (OpenSpec.ofChange frameGetsSpec)

/-- ITS FALSE NEIGHBOUR: 'it returns false'. Refute it at one input. -/
def frameGetsWrong : ChangeSpec := { name := "frameGets", fn := fun _ => fun
  | [d] => { results := [.lit (.bool false)], args := [d] }
  | _ => none }
def FrameGetsWrongFalsely : Prop := frameGetsRow.holds Try.pinned (OpenSpec.ofChange frameGetsWrong)

/-- 'consolslaw6.FrameTurned': WHATEVER THE INPUT: true; the input reads as it did. -/
def frameTurnedSpec : ChangeSpec := { name := "frameTurned", fn := fun _ => fun
  | [d1, d2, d3, d4] => { results := [.lit (.bool true)], args := [d1, d2, d3, d4] }
  | _ => none }
def frameTurnedRow : OpenClaim := { program := "ytmkgcdgpokidjaa", sum := "efa08d9201fed58fa613d1525673e2183e796536d8896ff9bf9673f288831aa8", func := "consols/consolslaw6.FrameTurned", spec := "frameTurned", apart := false }
def FrameTurnedSaid : Prop := frameTurnedRow.holds Try.pinned (OpenSpec.ofChange frameTurnedSpec)

/-- ITS FALSE NEIGHBOUR: 'it returns false'. Refute it at one input. -/
def frameTurnedWrong : ChangeSpec := { name := "frameTurned", fn := fun _ => fun
  | [d1, d2, d3, d4] => { results := [.lit (.bool false)], args := [d1, d2, d3, d4] }
  | _ => none }
def FrameTurnedWrongFalsely : Prop := frameTurnedRow.holds Try.pinned (OpenSpec.ofChange frameTurnedWrong)

/-- 'consolslaw6.FrameLengths': WHATEVER THE INPUT: true; the input reads as it did. -/
def frameLengthsSpec : ChangeSpec := { name := "frameLengths", fn := fun _ => fun
  | [d] => { results := [.lit (.bool true)], args := [d] }
  | _ => none }
def frameLengthsRow : OpenClaim := { program := "ytmkgcdgpokidjaa", sum := "efa08d9201fed58fa613d1525673e2183e796536d8896ff9bf9673f288831aa8", func := "consols/consolslaw6.FrameLengths", spec := "frameLengths", apart := false }
def FrameLengthsSaid : Prop := frameLengthsRow.holds Try.pinned (OpenSpec.ofChange frameLengthsSpec)

/-- ITS FALSE NEIGHBOUR: 'it returns false'. Refute it at one input. -/
def frameLengthsWrong : ChangeSpec := { name := "frameLengths", fn := fun _ => fun
  | [d] => { results := [.lit (.bool false)], args := [d] }
  | _ => none }
def FrameLengthsWrongFalsely : Prop := frameLengthsRow.holds Try.pinned (OpenSpec.ofChange frameLengthsWrong)

/-- 'consolslaw7.FlowPlays': WHATEVER THE INPUT: true; the input reads as it did. -/
def flowPlaysSpec : ChangeSpec := { name := "flowPlays", fn := fun _ => fun
  | [d] => { results := [.lit (.bool true)], args := [d] }
  | _ => none }
def flowPlaysRow : OpenClaim := { program := "ytmkgcdgpokidjaa", sum := "efa08d9201fed58fa613d1525673e2183e796536d8896ff9bf9673f288831aa8", func := "consols/consolslaw7.FlowPlays", spec := "flowPlays", apart := false }
def FlowPlaysSaid : Prop := flowPlaysRow.holds Try.pinned (OpenSpec.ofChange flowPlaysSpec)

/-- ITS FALSE NEIGHBOUR: 'it returns false'. Refute it at one input. -/
def flowPlaysWrong : ChangeSpec := { name := "flowPlays", fn := fun _ => fun
  | [d] => { results := [.lit (.bool false)], args := [d] }
  | _ => none }
def FlowPlaysWrongFalsely : Prop := flowPlaysRow.holds Try.pinned (OpenSpec.ofChange flowPlaysWrong)

/-- 'consolslaw7.FlowParts': WHATEVER THE INPUT: true; the input reads as it did. -/
def flowPartsSpec : ChangeSpec := { name := "flowParts", fn := fun _ => fun
  | [d1, d2] => { results := [.lit (.bool true)], args := [d1, d2] }
  | _ => none }
def flowPartsRow : OpenClaim := { program := "ytmkgcdgpokidjaa", sum := "efa08d9201fed58fa613d1525673e2183e796536d8896ff9bf9673f288831aa8", func := "consols/consolslaw7.FlowParts", spec := "flowParts", apart := false }
def FlowPartsSaid : Prop := flowPartsRow.holds Try.pinned (OpenSpec.ofChange flowPartsSpec)

/-- ITS FALSE NEIGHBOUR: 'it returns false'. Refute it at one input. -/
def flowPartsWrong : ChangeSpec := { name := "flowParts", fn := fun _ => fun
  | [d1, d2] => { results := [.lit (.bool false)], args := [d1, d2] }
  | _ => none }
def FlowPartsWrongFalsely : Prop := flowPartsRow.holds Try.pinned (OpenSpec.ofChange flowPartsWrong)

/-- 'consolslaw7.FlowFrames': WHATEVER THE INPUT: true; the input reads as it did. -/
def flowFramesSpec : ChangeSpec := { name := "flowFrames", fn := fun _ => fun
  | [d] => { results := [.lit (.bool true)], args := [d] }
  | _ => none }
def flowFramesRow : OpenClaim := { program := "ytmkgcdgpokidjaa", sum := "efa08d9201fed58fa613d1525673e2183e796536d8896ff9bf9673f288831aa8", func := "consols/consolslaw7.FlowFrames", spec := "flowFrames", apart := false }
def FlowFramesSaid : Prop := flowFramesRow.holds Try.pinned (OpenSpec.ofChange flowFramesSpec)

/-- ITS FALSE NEIGHBOUR: 'it returns false'. Refute it at one input. -/
def flowFramesWrong : ChangeSpec := { name := "flowFrames", fn := fun _ => fun
  | [d] => { results := [.lit (.bool false)], args := [d] }
  | _ => none }
def FlowFramesWrongFalsely : Prop := flowFramesRow.holds Try.pinned (OpenSpec.ofChange flowFramesWrong)

/-- 'consolslaw7.FlowCounts': WHATEVER THE INPUT: true; the input reads as it did. -/
def flowCountsSpec : ChangeSpec := { name := "flowCounts", fn := fun _ => fun
  | [d] => { results := [.lit (.bool true)], args := [d] }
  | _ => none }
def flowCountsRow : OpenClaim := { program := "ytmkgcdgpokidjaa", sum := "efa08d9201fed58fa613d1525673e2183e796536d8896ff9bf9673f288831aa8", func := "consols/consolslaw7.FlowCounts", spec := "flowCounts", apart := false }
def FlowCountsSaid : Prop := flowCountsRow.holds Try.pinned (OpenSpec.ofChange flowCountsSpec)

/-- ITS FALSE NEIGHBOUR: 'it returns false'. Refute it at one input. -/
def flowCountsWrong : ChangeSpec := { name := "flowCounts", fn := fun _ => fun
  | [d] => { results := [.lit (.bool false)], args := [d] }
  | _ => none }
def FlowCountsWrongFalsely : Prop := flowCountsRow.holds Try.pinned (OpenSpec.ofChange flowCountsWrong)

/-- 'consolslaw7.FlowNoise': WHATEVER THE INPUT: true; the input reads as it did. -/
def flowNoiseSpec : ChangeSpec := { name := "flowNoise", fn := fun _ => fun
  | [d1, d2] => { results := [.lit (.bool true)], args := [d1, d2] }
  | _ => none }
def flowNoiseRow : OpenClaim := { program := "ytmkgcdgpokidjaa", sum := "efa08d9201fed58fa613d1525673e2183e796536d8896ff9bf9673f288831aa8", func := "consols/consolslaw7.FlowNoise", spec := "flowNoise", apart := false }
def FlowNoiseSaid : Prop := flowNoiseRow.holds Try.pinned (OpenSpec.ofChange flowNoiseSpec)

/-- ITS FALSE NEIGHBOUR: 'it returns false'. Refute it at one input. -/
def flowNoiseWrong : ChangeSpec := { name := "flowNoise", fn := fun _ => fun
  | [d1, d2] => { results := [.lit (.bool false)], args := [d1, d2] }
  | _ => none }
def FlowNoiseWrongFalsely : Prop := flowNoiseRow.holds Try.pinned (OpenSpec.ofChange flowNoiseWrong)

/-- 'consolslaw7.FlowHolds': WHATEVER THE INPUT: true; the input reads as it did. -/
def flowHoldsSpec : ChangeSpec := { name := "flowHolds", fn := fun _ => fun
  | [d1, d2] => { results := [.lit (.bool true)], args := [d1, d2] }
  | _ => none }
def flowHoldsRow : OpenClaim := { program := "ytmkgcdgpokidjaa", sum := "efa08d9201fed58fa613d1525673e2183e796536d8896ff9bf9673f288831aa8", func := "consols/consolslaw7.FlowHolds", spec := "flowHolds", apart := false }
def FlowHoldsSaid : Prop := flowHoldsRow.holds Try.pinned (OpenSpec.ofChange flowHoldsSpec)

/-- ITS FALSE NEIGHBOUR: 'it returns false'. Refute it at one input. -/
def flowHoldsWrong : ChangeSpec := { name := "flowHolds", fn := fun _ => fun
  | [d1, d2] => { results := [.lit (.bool false)], args := [d1, d2] }
  | _ => none }
def FlowHoldsWrongFalsely : Prop := flowHoldsRow.holds Try.pinned (OpenSpec.ofChange flowHoldsWrong)

/-- 'consolslaw10.SessOnce': WHATEVER THE INPUT: true; the input reads as it did. -/
def sessOnceSpec : ChangeSpec := { name := "sessOnce", fn := fun _ => fun
  | [d] => { results := [.lit (.bool true)], args := [d] }
  | _ => none }
def sessOnceRow : OpenClaim := { program := "ytmkgcdgpokidjaa", sum := "efa08d9201fed58fa613d1525673e2183e796536d8896ff9bf9673f288831aa8", func := "consols/consolslaw10.SessOnce", spec := "sessOnce", apart := false }
def SessOnceSaid : Prop := sessOnceRow.holds Try.pinned (OpenSpec.ofChange sessOnceSpec)

/-- ITS FALSE NEIGHBOUR: 'it returns false'. Refute it at one input. -/
def sessOnceWrong : ChangeSpec := { name := "sessOnce", fn := fun _ => fun
  | [d] => { results := [.lit (.bool false)], args := [d] }
  | _ => none }
def SessOnceWrongFalsely : Prop := sessOnceRow.holds Try.pinned (OpenSpec.ofChange sessOnceWrong)

/-- 'consolslaw10.SessGap': WHATEVER THE INPUT: true; the input reads as it did. -/
def sessGapSpec : ChangeSpec := { name := "sessGap", fn := fun _ => fun
  | [d1, d2] => { results := [.lit (.bool true)], args := [d1, d2] }
  | _ => none }
def sessGapRow : OpenClaim := { program := "ytmkgcdgpokidjaa", sum := "efa08d9201fed58fa613d1525673e2183e796536d8896ff9bf9673f288831aa8", func := "consols/consolslaw10.SessGap", spec := "sessGap", apart := false }
def SessGapSaid : Prop := sessGapRow.holds Try.pinned (OpenSpec.ofChange sessGapSpec)

/-- ITS FALSE NEIGHBOUR: 'it returns false'. Refute it at one input. -/
def sessGapWrong : ChangeSpec := { name := "sessGap", fn := fun _ => fun
  | [d1, d2] => { results := [.lit (.bool false)], args := [d1, d2] }
  | _ => none }
def SessGapWrongFalsely : Prop := sessGapRow.holds Try.pinned (OpenSpec.ofChange sessGapWrong)

/-- 'consolslaw10.SessBeats': WHATEVER THE INPUT: true; the input reads as it did. -/
def sessBeatsSpec : ChangeSpec := { name := "sessBeats", fn := fun _ => fun
  | [d] => { results := [.lit (.bool true)], args := [d] }
  | _ => none }
def sessBeatsRow : OpenClaim := { program := "ytmkgcdgpokidjaa", sum := "efa08d9201fed58fa613d1525673e2183e796536d8896ff9bf9673f288831aa8", func := "consols/consolslaw10.SessBeats", spec := "sessBeats", apart := false }
def SessBeatsSaid : Prop := sessBeatsRow.holds Try.pinned (OpenSpec.ofChange sessBeatsSpec)

/-- ITS FALSE NEIGHBOUR: 'it returns false'. Refute it at one input. -/
def sessBeatsWrong : ChangeSpec := { name := "sessBeats", fn := fun _ => fun
  | [d] => { results := [.lit (.bool false)], args := [d] }
  | _ => none }
def SessBeatsWrongFalsely : Prop := sessBeatsRow.holds Try.pinned (OpenSpec.ofChange sessBeatsWrong)

/-- 'consolslaw5.MsgBytes': WHATEVER THE INPUT: true; the input reads as it did. -/
def msgBytesSpec : ChangeSpec := { name := "msgBytes", fn := fun _ => fun
  | [d] => { results := [.lit (.bool true)], args := [d] }
  | _ => none }
def msgBytesRow : OpenClaim := { program := "ytmkgcdgpokidjaa", sum := "efa08d9201fed58fa613d1525673e2183e796536d8896ff9bf9673f288831aa8", func := "consols/consolslaw5.MsgBytes", spec := "msgBytes", unfollowed := true, recurses := true, apart := false }
def MsgBytesSaid : Prop := msgBytesRow.holds Try.pinned (OpenSpec.ofChange msgBytesSpec)

/-- ITS FALSE NEIGHBOUR: 'it returns false'. Refute it at one input. -/
def msgBytesWrong : ChangeSpec := { name := "msgBytes", fn := fun _ => fun
  | [d] => { results := [.lit (.bool false)], args := [d] }
  | _ => none }
def MsgBytesWrongFalsely : Prop := msgBytesRow.holds Try.pinned (OpenSpec.ofChange msgBytesWrong)

/-- 'consolslaw5.MsgReads': WHATEVER THE INPUT: true; the input reads as it did. -/
def msgReadsSpec : ChangeSpec := { name := "msgReads", fn := fun _ => fun
  | [d] => { results := [.lit (.bool true)], args := [d] }
  | _ => none }
def msgReadsRow : OpenClaim := { program := "ytmkgcdgpokidjaa", sum := "efa08d9201fed58fa613d1525673e2183e796536d8896ff9bf9673f288831aa8", func := "consols/consolslaw5.MsgReads", spec := "msgReads", unfollowed := true, recurses := true, apart := false }
def MsgReadsSaid : Prop := msgReadsRow.holds Try.pinned (OpenSpec.ofChange msgReadsSpec)

/-- ITS FALSE NEIGHBOUR: 'it returns false'. Refute it at one input. -/
def msgReadsWrong : ChangeSpec := { name := "msgReads", fn := fun _ => fun
  | [d] => { results := [.lit (.bool false)], args := [d] }
  | _ => none }
def MsgReadsWrongFalsely : Prop := msgReadsRow.holds Try.pinned (OpenSpec.ofChange msgReadsWrong)

/-- 'consolslaw5.MsgNumbers': WHATEVER THE INPUT: true; the input reads as it did. -/
def msgNumbersSpec : ChangeSpec := { name := "msgNumbers", fn := fun _ => fun
  | [d1, d2, d3] => { results := [.lit (.bool true)], args := [d1, d2, d3] }
  | _ => none }
def msgNumbersRow : OpenClaim := { program := "ytmkgcdgpokidjaa", sum := "efa08d9201fed58fa613d1525673e2183e796536d8896ff9bf9673f288831aa8", func := "consols/consolslaw5.MsgNumbers", spec := "msgNumbers", unfollowed := true, recurses := true, apart := false }
def MsgNumbersSaid : Prop := msgNumbersRow.holds Try.pinned (OpenSpec.ofChange msgNumbersSpec)

/-- ITS FALSE NEIGHBOUR: 'it returns false'. Refute it at one input. -/
def msgNumbersWrong : ChangeSpec := { name := "msgNumbers", fn := fun _ => fun
  | [d1, d2, d3] => { results := [.lit (.bool false)], args := [d1, d2, d3] }
  | _ => none }
def MsgNumbersWrongFalsely : Prop := msgNumbersRow.holds Try.pinned (OpenSpec.ofChange msgNumbersWrong)

/-- 'consolslaw5.MsgCut': WHATEVER THE INPUT: true; the input reads as it did. -/
def msgCutSpec : ChangeSpec := { name := "msgCut", fn := fun _ => fun
  | [d1, d2, d3] => { results := [.lit (.bool true)], args := [d1, d2, d3] }
  | _ => none }
def msgCutRow : OpenClaim := { program := "ytmkgcdgpokidjaa", sum := "efa08d9201fed58fa613d1525673e2183e796536d8896ff9bf9673f288831aa8", func := "consols/consolslaw5.MsgCut", spec := "msgCut", unfollowed := true, recurses := true, apart := false }
def MsgCutSaid : Prop := msgCutRow.holds Try.pinned (OpenSpec.ofChange msgCutSpec)

/-- ITS FALSE NEIGHBOUR: 'it returns false'. Refute it at one input. -/
def msgCutWrong : ChangeSpec := { name := "msgCut", fn := fun _ => fun
  | [d1, d2, d3] => { results := [.lit (.bool false)], args := [d1, d2, d3] }
  | _ => none }
def MsgCutWrongFalsely : Prop := msgCutRow.holds Try.pinned (OpenSpec.ofChange msgCutWrong)

/-- 'consolslaw5.MsgRest': WHATEVER THE INPUT: true; the input reads as it did. -/
def msgRestSpec : ChangeSpec := { name := "msgRest", fn := fun _ => fun
  | [d1, d2, d3] => { results := [.lit (.bool true)], args := [d1, d2, d3] }
  | _ => none }
def msgRestRow : OpenClaim := { program := "ytmkgcdgpokidjaa", sum := "efa08d9201fed58fa613d1525673e2183e796536d8896ff9bf9673f288831aa8", func := "consols/consolslaw5.MsgRest", spec := "msgRest", unfollowed := true, recurses := true, apart := false }
def MsgRestSaid : Prop := msgRestRow.holds Try.pinned (OpenSpec.ofChange msgRestSpec)

/-- ITS FALSE NEIGHBOUR: 'it returns false'. Refute it at one input. -/
def msgRestWrong : ChangeSpec := { name := "msgRest", fn := fun _ => fun
  | [d1, d2, d3] => { results := [.lit (.bool false)], args := [d1, d2, d3] }
  | _ => none }
def MsgRestWrongFalsely : Prop := msgRestRow.holds Try.pinned (OpenSpec.ofChange msgRestWrong)

/-- 'consolslaw5.MsgKinds': WHATEVER THE INPUT: true; the input reads as it did. -/
def msgKindsSpec : ChangeSpec := { name := "msgKinds", fn := fun _ => fun
  | [d] => { results := [.lit (.bool true)], args := [d] }
  | _ => none }
def msgKindsRow : OpenClaim := { program := "ytmkgcdgpokidjaa", sum := "efa08d9201fed58fa613d1525673e2183e796536d8896ff9bf9673f288831aa8", func := "consols/consolslaw5.MsgKinds", spec := "msgKinds", unfollowed := true, recurses := true, apart := false }
def MsgKindsSaid : Prop := msgKindsRow.holds Try.pinned (OpenSpec.ofChange msgKindsSpec)

/-- ITS FALSE NEIGHBOUR: 'it returns false'. Refute it at one input. -/
def msgKindsWrong : ChangeSpec := { name := "msgKinds", fn := fun _ => fun
  | [d] => { results := [.lit (.bool false)], args := [d] }
  | _ => none }
def MsgKindsWrongFalsely : Prop := msgKindsRow.holds Try.pinned (OpenSpec.ofChange msgKindsWrong)

/-- 'consolslaw10.SessOwn': WHATEVER THE INPUT: true; the input reads as it did. -/
def sessOwnSpec : ChangeSpec := { name := "sessOwn", fn := fun _ => fun
  | [d] => { results := [.lit (.bool true)], args := [d] }
  | _ => none }
def sessOwnRow : OpenClaim := { program := "ytmkgcdgpokidjaa", sum := "efa08d9201fed58fa613d1525673e2183e796536d8896ff9bf9673f288831aa8", func := "consols/consolslaw10.SessOwn", spec := "sessOwn", apart := false }
def SessOwnSaid : Prop := sessOwnRow.holds Try.pinned (OpenSpec.ofChange sessOwnSpec)

/-- ITS FALSE NEIGHBOUR: 'it returns false'. Refute it at one input. -/
def sessOwnWrong : ChangeSpec := { name := "sessOwn", fn := fun _ => fun
  | [d] => { results := [.lit (.bool false)], args := [d] }
  | _ => none }
def SessOwnWrongFalsely : Prop := sessOwnRow.holds Try.pinned (OpenSpec.ofChange sessOwnWrong)

/-- 'consolslaw10.SessSends': WHATEVER THE INPUT: true; the input reads as it did. -/
def sessSendsSpec : ChangeSpec := { name := "sessSends", fn := fun _ => fun
  | [d1, d2] => { results := [.lit (.bool true)], args := [d1, d2] }
  | _ => none }
def sessSendsRow : OpenClaim := { program := "ytmkgcdgpokidjaa", sum := "efa08d9201fed58fa613d1525673e2183e796536d8896ff9bf9673f288831aa8", func := "consols/consolslaw10.SessSends", spec := "sessSends", apart := false }
def SessSendsSaid : Prop := sessSendsRow.holds Try.pinned (OpenSpec.ofChange sessSendsSpec)

/-- ITS FALSE NEIGHBOUR: 'it returns false'. Refute it at one input. -/
def sessSendsWrong : ChangeSpec := { name := "sessSends", fn := fun _ => fun
  | [d1, d2] => { results := [.lit (.bool false)], args := [d1, d2] }
  | _ => none }
def SessSendsWrongFalsely : Prop := sessSendsRow.holds Try.pinned (OpenSpec.ofChange sessSendsWrong)

/-- 'consolslaw10.SessPlays': WHATEVER THE INPUT: true; the input reads as it did. -/
def sessPlaysSpec : ChangeSpec := { name := "sessPlays", fn := fun _ => fun
  | [d1, d2] => { results := [.lit (.bool true)], args := [d1, d2] }
  | _ => none }
def sessPlaysRow : OpenClaim := { program := "ytmkgcdgpokidjaa", sum := "efa08d9201fed58fa613d1525673e2183e796536d8896ff9bf9673f288831aa8", func := "consols/consolslaw10.SessPlays", spec := "sessPlays", apart := false }
def SessPlaysSaid : Prop := sessPlaysRow.holds Try.pinned (OpenSpec.ofChange sessPlaysSpec)

/-- ITS FALSE NEIGHBOUR: 'it returns false'. Refute it at one input. -/
def sessPlaysWrong : ChangeSpec := { name := "sessPlays", fn := fun _ => fun
  | [d1, d2] => { results := [.lit (.bool false)], args := [d1, d2] }
  | _ => none }
def SessPlaysWrongFalsely : Prop := sessPlaysRow.holds Try.pinned (OpenSpec.ofChange sessPlaysWrong)

/-- 'consolslaw24.LineParts': WHATEVER THE INPUT: true; the input reads as it did. -/
def linePartsSpec : ChangeSpec := { name := "lineParts", fn := fun _ => fun
  | [d1, d2] => { results := [.lit (.bool true)], args := [d1, d2] }
  | _ => none }
def linePartsRow : OpenClaim := { program := "ytmkgcdgpokidjaa", sum := "efa08d9201fed58fa613d1525673e2183e796536d8896ff9bf9673f288831aa8", func := "consols/consolslaw24.LineParts", spec := "lineParts", unfollowed := true, recurses := true, apart := false }
def LinePartsSaid : Prop := linePartsRow.holds Try.pinned (OpenSpec.ofChange linePartsSpec)

/-- ITS FALSE NEIGHBOUR: 'it returns false'. Refute it at one input. -/
def linePartsWrong : ChangeSpec := { name := "lineParts", fn := fun _ => fun
  | [d1, d2] => { results := [.lit (.bool false)], args := [d1, d2] }
  | _ => none }
def LinePartsWrongFalsely : Prop := linePartsRow.holds Try.pinned (OpenSpec.ofChange linePartsWrong)

/-- 'consolslaw24.LineNoise': WHATEVER THE INPUT: true; the input reads as it did. -/
def lineNoiseSpec : ChangeSpec := { name := "lineNoise", fn := fun _ => fun
  | [d1, d2] => { results := [.lit (.bool true)], args := [d1, d2] }
  | _ => none }
def lineNoiseRow : OpenClaim := { program := "ytmkgcdgpokidjaa", sum := "efa08d9201fed58fa613d1525673e2183e796536d8896ff9bf9673f288831aa8", func := "consols/consolslaw24.LineNoise", spec := "lineNoise", unfollowed := true, recurses := true, apart := false }
def LineNoiseSaid : Prop := lineNoiseRow.holds Try.pinned (OpenSpec.ofChange lineNoiseSpec)

/-- ITS FALSE NEIGHBOUR: 'it returns false'. Refute it at one input. -/
def lineNoiseWrong : ChangeSpec := { name := "lineNoise", fn := fun _ => fun
  | [d1, d2] => { results := [.lit (.bool false)], args := [d1, d2] }
  | _ => none }
def LineNoiseWrongFalsely : Prop := lineNoiseRow.holds Try.pinned (OpenSpec.ofChange lineNoiseWrong)

/-- 'consolslaw24.LineFull': WHATEVER THE INPUT: true; the input reads as it did. -/
def lineFullSpec : ChangeSpec := { name := "lineFull", fn := fun _ => fun
  | [d] => { results := [.lit (.bool true)], args := [d] }
  | _ => none }
def lineFullRow : OpenClaim := { program := "ytmkgcdgpokidjaa", sum := "efa08d9201fed58fa613d1525673e2183e796536d8896ff9bf9673f288831aa8", func := "consols/consolslaw24.LineFull", spec := "lineFull", unfollowed := true, recurses := true, apart := false }
def LineFullSaid : Prop := lineFullRow.holds Try.pinned (OpenSpec.ofChange lineFullSpec)

/-- ITS FALSE NEIGHBOUR: 'it returns false'. Refute it at one input. -/
def lineFullWrong : ChangeSpec := { name := "lineFull", fn := fun _ => fun
  | [d] => { results := [.lit (.bool false)], args := [d] }
  | _ => none }
def LineFullWrongFalsely : Prop := lineFullRow.holds Try.pinned (OpenSpec.ofChange lineFullWrong)

/- THE SECOND FORM. 'bulk': how many values and letters a reading holds, each counted each time it is reached (what is shared counts as often as it is met; a slice's spare places count too). A statement '..UptoSaid' is the law's where the arguments, and the package variables that the reading takes, are together of bulk at most 1048576: NARROWER than '..Said'. Prove '..Said' where nothing that the law and all that it calls make is longer than what came in: it says more and counts as full. Else prove '..UptoSaid'. A law counts once. -/
mutual
def uptoBulk {H : Type} : DataW H → Nat
  | .lit (.string bytes) => bytes.length + 1
  | .lit _ => 1
  | .nil => 1
  | .ptr d => uptoBulk d + 1
  | .slice elems spare => uptoBulkAll elems + uptoBulkAll spare + 1
  | .agg parts => uptoBulkAll parts + 1
  | .iface _ d => uptoBulk d + 1
  | .map entries => uptoBulkEntries entries + 1
  | .held _ => 1
def uptoBulkAll {H : Type} : List (DataW H) → Nat
  | [] => 0
  | d :: r => uptoBulk d + uptoBulkAll r
def uptoBulkEntries {H : Type} : List (Lit × DataW H) → Nat
  | [] => 0
  | x :: r => uptoBulkEntry x + uptoBulkEntries r
def uptoBulkEntry {H : Type} : Lit × DataW H → Nat
  | (.string bytes, d) => bytes.length + uptoBulk d + 1
  | (_, d) => uptoBulk d + 1
 end
def uptoSmall : (H : Type) → List (DataW H) → Bool := fun _ ds => decide (uptoBulkAll ds ≤ 1048576)
def OpenSpec.upto (s : _root_.Go.ChangeSpec) : _root_.Go.OpenSpec := { _root_.Go.OpenSpec.ofChange s with cond := some uptoSmall }

/-- 'consolslaw8.MailOrder', WHERE WHAT IT READS IS OF BULK AT MOST 1048576: true; the input reads as it did. -/
def mailOrderUptoRow : OpenClaim := { program := "ytmkgcdgpokidjaa", sum := "efa08d9201fed58fa613d1525673e2183e796536d8896ff9bf9673f288831aa8", func := "consols/consolslaw8.MailOrder", spec := "mailOrder", apart := false, narrowed := true }
def MailOrderUptoSaid : Prop := mailOrderUptoRow.holds Try.pinned (OpenSpec.upto mailOrderSpec)

/-- 'consolslaw8.MailFirsts', WHERE WHAT IT READS IS OF BULK AT MOST 1048576: true; the input reads as it did. -/
def mailFirstsUptoRow : OpenClaim := { program := "ytmkgcdgpokidjaa", sum := "efa08d9201fed58fa613d1525673e2183e796536d8896ff9bf9673f288831aa8", func := "consols/consolslaw8.MailFirsts", spec := "mailFirsts", apart := false, narrowed := true }
def MailFirstsUptoSaid : Prop := mailFirstsUptoRow.holds Try.pinned (OpenSpec.upto mailFirstsSpec)

/-- 'consolslaw9.KeepPlays', WHERE WHAT IT READS IS OF BULK AT MOST 1048576: true; the input reads as it did. -/
def keepPlaysUptoRow : OpenClaim := { program := "ytmkgcdgpokidjaa", sum := "efa08d9201fed58fa613d1525673e2183e796536d8896ff9bf9673f288831aa8", func := "consols/consolslaw9.KeepPlays", spec := "keepPlays", apart := false, narrowed := true }
def KeepPlaysUptoSaid : Prop := keepPlaysUptoRow.holds Try.pinned (OpenSpec.upto keepPlaysSpec)

/-- 'consolslaw9.KeepLast', WHERE WHAT IT READS IS OF BULK AT MOST 1048576: true; the input reads as it did. -/
def keepLastUptoRow : OpenClaim := { program := "ytmkgcdgpokidjaa", sum := "efa08d9201fed58fa613d1525673e2183e796536d8896ff9bf9673f288831aa8", func := "consols/consolslaw9.KeepLast", spec := "keepLast", apart := false, narrowed := true }
def KeepLastUptoSaid : Prop := keepLastUptoRow.holds Try.pinned (OpenSpec.upto keepLastSpec)

/-- 'consolslaw9.KeepOwn', WHERE WHAT IT READS IS OF BULK AT MOST 1048576: true; the input reads as it did. -/
def keepOwnUptoRow : OpenClaim := { program := "ytmkgcdgpokidjaa", sum := "efa08d9201fed58fa613d1525673e2183e796536d8896ff9bf9673f288831aa8", func := "consols/consolslaw9.KeepOwn", spec := "keepOwn", apart := false, narrowed := true }
def KeepOwnUptoSaid : Prop := keepOwnUptoRow.holds Try.pinned (OpenSpec.upto keepOwnSpec)

/-- 'consolslaw8.MailPlays', WHERE WHAT IT READS IS OF BULK AT MOST 1048576: true; the input reads as it did. -/
def mailPlaysUptoRow : OpenClaim := { program := "ytmkgcdgpokidjaa", sum := "efa08d9201fed58fa613d1525673e2183e796536d8896ff9bf9673f288831aa8", func := "consols/consolslaw8.MailPlays", spec := "mailPlays", apart := false, narrowed := true }
def MailPlaysUptoSaid : Prop := mailPlaysUptoRow.holds Try.pinned (OpenSpec.upto mailPlaysSpec)

/-- 'consolslaw8.MailOwn', WHERE WHAT IT READS IS OF BULK AT MOST 1048576: true; the input reads as it did. -/
def mailOwnUptoRow : OpenClaim := { program := "ytmkgcdgpokidjaa", sum := "efa08d9201fed58fa613d1525673e2183e796536d8896ff9bf9673f288831aa8", func := "consols/consolslaw8.MailOwn", spec := "mailOwn", apart := false, narrowed := true }
def MailOwnUptoSaid : Prop := mailOwnUptoRow.holds Try.pinned (OpenSpec.upto mailOwnSpec)

/-- 'consolslaw3.PackPuts', WHERE WHAT IT READS IS OF BULK AT MOST 1048576: true; the input reads as it did. -/
def packPutsUptoRow : OpenClaim := { program := "ytmkgcdgpokidjaa", sum := "efa08d9201fed58fa613d1525673e2183e796536d8896ff9bf9673f288831aa8", func := "consols/consolslaw3.PackPuts", spec := "packPuts", unfollowed := true, recurses := true, apart := false, narrowed := true }
def PackPutsUptoSaid : Prop := packPutsUptoRow.holds Try.pinned (OpenSpec.upto packPutsSpec)

/-- 'consolslaw3.PackGets', WHERE WHAT IT READS IS OF BULK AT MOST 1048576: true; the input reads as it did. -/
def packGetsUptoRow : OpenClaim := { program := "ytmkgcdgpokidjaa", sum := "efa08d9201fed58fa613d1525673e2183e796536d8896ff9bf9673f288831aa8", func := "consols/consolslaw3.PackGets", spec := "packGets", unfollowed := true, recurses := true, apart := false, narrowed := true }
def PackGetsUptoSaid : Prop := packGetsUptoRow.holds Try.pinned (OpenSpec.upto packGetsSpec)

/-- 'consolslaw3.PackCut', WHERE WHAT IT READS IS OF BULK AT MOST 1048576: true; the input reads as it did. -/
def packCutUptoRow : OpenClaim := { program := "ytmkgcdgpokidjaa", sum := "efa08d9201fed58fa613d1525673e2183e796536d8896ff9bf9673f288831aa8", func := "consols/consolslaw3.PackCut", spec := "packCut", unfollowed := true, recurses := true, apart := false, narrowed := true }
def PackCutUptoSaid : Prop := packCutUptoRow.holds Try.pinned (OpenSpec.upto packCutSpec)

/-- 'consolslaw3.PackJoin', WHERE WHAT IT READS IS OF BULK AT MOST 1048576: true; the input reads as it did. -/
def packJoinUptoRow : OpenClaim := { program := "ytmkgcdgpokidjaa", sum := "efa08d9201fed58fa613d1525673e2183e796536d8896ff9bf9673f288831aa8", func := "consols/consolslaw3.PackJoin", spec := "packJoin", unfollowed := true, recurses := true, apart := false, narrowed := true }
def PackJoinUptoSaid : Prop := packJoinUptoRow.holds Try.pinned (OpenSpec.upto packJoinSpec)

/-- 'consolslaw3.PackKnown', WHERE WHAT IT READS IS OF BULK AT MOST 1048576: true; the input reads as it did. -/
def packKnownUptoRow : OpenClaim := { program := "ytmkgcdgpokidjaa", sum := "efa08d9201fed58fa613d1525673e2183e796536d8896ff9bf9673f288831aa8", func := "consols/consolslaw3.PackKnown", spec := "packKnown", unfollowed := true, recurses := true, apart := false, narrowed := true }
def PackKnownUptoSaid : Prop := packKnownUptoRow.holds Try.pinned (OpenSpec.upto packKnownSpec)

/-- 'consolslaw3.PackOdd', WHERE WHAT IT READS IS OF BULK AT MOST 1048576: true; the input reads as it did. -/
def packOddUptoRow : OpenClaim := { program := "ytmkgcdgpokidjaa", sum := "efa08d9201fed58fa613d1525673e2183e796536d8896ff9bf9673f288831aa8", func := "consols/consolslaw3.PackOdd", spec := "packOdd", unfollowed := true, recurses := true, apart := false, narrowed := true }
def PackOddUptoSaid : Prop := packOddUptoRow.holds Try.pinned (OpenSpec.upto packOddSpec)

/-- 'consolslaw3.PackOwn', WHERE WHAT IT READS IS OF BULK AT MOST 1048576: true; the input reads as it did. -/
def packOwnUptoRow : OpenClaim := { program := "ytmkgcdgpokidjaa", sum := "efa08d9201fed58fa613d1525673e2183e796536d8896ff9bf9673f288831aa8", func := "consols/consolslaw3.PackOwn", spec := "packOwn", unfollowed := true, recurses := true, apart := false, narrowed := true }
def PackOwnUptoSaid : Prop := packOwnUptoRow.holds Try.pinned (OpenSpec.upto packOwnSpec)

/-- 'consolslaw6.FramePuts', WHERE WHAT IT READS IS OF BULK AT MOST 1048576: true; the input reads as it did. -/
def framePutsUptoRow : OpenClaim := { program := "ytmkgcdgpokidjaa", sum := "efa08d9201fed58fa613d1525673e2183e796536d8896ff9bf9673f288831aa8", func := "consols/consolslaw6.FramePuts", spec := "framePuts", apart := false, narrowed := true }
def FramePutsUptoSaid : Prop := framePutsUptoRow.holds Try.pinned (OpenSpec.upto framePutsSpec)

/-- 'consolslaw6.FrameGets', WHERE WHAT IT READS IS OF BULK AT MOST 1048576: true; the input reads as it did. -/
def frameGetsUptoRow : OpenClaim := { program := "ytmkgcdgpokidjaa", sum := "efa08d9201fed58fa613d1525673e2183e796536d8896ff9bf9673f288831aa8", func := "consols/consolslaw6.FrameGets", spec := "frameGets", apart := false, narrowed := true }
def FrameGetsUptoSaid : Prop := frameGetsUptoRow.holds Try.pinned (OpenSpec.upto frameGetsSpec)

/-- 'consolslaw6.FrameTurned', WHERE WHAT IT READS IS OF BULK AT MOST 1048576: true; the input reads as it did. -/
def frameTurnedUptoRow : OpenClaim := { program := "ytmkgcdgpokidjaa", sum := "efa08d9201fed58fa613d1525673e2183e796536d8896ff9bf9673f288831aa8", func := "consols/consolslaw6.FrameTurned", spec := "frameTurned", apart := false, narrowed := true }
def FrameTurnedUptoSaid : Prop := frameTurnedUptoRow.holds Try.pinned (OpenSpec.upto frameTurnedSpec)

/-- 'consolslaw6.FrameLengths', WHERE WHAT IT READS IS OF BULK AT MOST 1048576: true; the input reads as it did. -/
def frameLengthsUptoRow : OpenClaim := { program := "ytmkgcdgpokidjaa", sum := "efa08d9201fed58fa613d1525673e2183e796536d8896ff9bf9673f288831aa8", func := "consols/consolslaw6.FrameLengths", spec := "frameLengths", apart := false, narrowed := true }
def FrameLengthsUptoSaid : Prop := frameLengthsUptoRow.holds Try.pinned (OpenSpec.upto frameLengthsSpec)

/-- 'consolslaw7.FlowPlays', WHERE WHAT IT READS IS OF BULK AT MOST 1048576: true; the input reads as it did. -/
def flowPlaysUptoRow : OpenClaim := { program := "ytmkgcdgpokidjaa", sum := "efa08d9201fed58fa613d1525673e2183e796536d8896ff9bf9673f288831aa8", func := "consols/consolslaw7.FlowPlays", spec := "flowPlays", apart := false, narrowed := true }
def FlowPlaysUptoSaid : Prop := flowPlaysUptoRow.holds Try.pinned (OpenSpec.upto flowPlaysSpec)

/-- 'consolslaw7.FlowParts', WHERE WHAT IT READS IS OF BULK AT MOST 1048576: true; the input reads as it did. -/
def flowPartsUptoRow : OpenClaim := { program := "ytmkgcdgpokidjaa", sum := "efa08d9201fed58fa613d1525673e2183e796536d8896ff9bf9673f288831aa8", func := "consols/consolslaw7.FlowParts", spec := "flowParts", apart := false, narrowed := true }
def FlowPartsUptoSaid : Prop := flowPartsUptoRow.holds Try.pinned (OpenSpec.upto flowPartsSpec)

/-- 'consolslaw7.FlowFrames', WHERE WHAT IT READS IS OF BULK AT MOST 1048576: true; the input reads as it did. -/
def flowFramesUptoRow : OpenClaim := { program := "ytmkgcdgpokidjaa", sum := "efa08d9201fed58fa613d1525673e2183e796536d8896ff9bf9673f288831aa8", func := "consols/consolslaw7.FlowFrames", spec := "flowFrames", apart := false, narrowed := true }
def FlowFramesUptoSaid : Prop := flowFramesUptoRow.holds Try.pinned (OpenSpec.upto flowFramesSpec)

/-- 'consolslaw7.FlowCounts', WHERE WHAT IT READS IS OF BULK AT MOST 1048576: true; the input reads as it did. -/
def flowCountsUptoRow : OpenClaim := { program := "ytmkgcdgpokidjaa", sum := "efa08d9201fed58fa613d1525673e2183e796536d8896ff9bf9673f288831aa8", func := "consols/consolslaw7.FlowCounts", spec := "flowCounts", apart := false, narrowed := true }
def FlowCountsUptoSaid : Prop := flowCountsUptoRow.holds Try.pinned (OpenSpec.upto flowCountsSpec)

/-- 'consolslaw7.FlowNoise', WHERE WHAT IT READS IS OF BULK AT MOST 1048576: true; the input reads as it did. -/
def flowNoiseUptoRow : OpenClaim := { program := "ytmkgcdgpokidjaa", sum := "efa08d9201fed58fa613d1525673e2183e796536d8896ff9bf9673f288831aa8", func := "consols/consolslaw7.FlowNoise", spec := "flowNoise", apart := false, narrowed := true }
def FlowNoiseUptoSaid : Prop := flowNoiseUptoRow.holds Try.pinned (OpenSpec.upto flowNoiseSpec)

/-- 'consolslaw7.FlowHolds', WHERE WHAT IT READS IS OF BULK AT MOST 1048576: true; the input reads as it did. -/
def flowHoldsUptoRow : OpenClaim := { program := "ytmkgcdgpokidjaa", sum := "efa08d9201fed58fa613d1525673e2183e796536d8896ff9bf9673f288831aa8", func := "consols/consolslaw7.FlowHolds", spec := "flowHolds", apart := false, narrowed := true }
def FlowHoldsUptoSaid : Prop := flowHoldsUptoRow.holds Try.pinned (OpenSpec.upto flowHoldsSpec)

/-- 'consolslaw10.SessOnce', WHERE WHAT IT READS IS OF BULK AT MOST 1048576: true; the input reads as it did. -/
def sessOnceUptoRow : OpenClaim := { program := "ytmkgcdgpokidjaa", sum := "efa08d9201fed58fa613d1525673e2183e796536d8896ff9bf9673f288831aa8", func := "consols/consolslaw10.SessOnce", spec := "sessOnce", apart := false, narrowed := true }
def SessOnceUptoSaid : Prop := sessOnceUptoRow.holds Try.pinned (OpenSpec.upto sessOnceSpec)

/-- 'consolslaw10.SessGap', WHERE WHAT IT READS IS OF BULK AT MOST 1048576: true; the input reads as it did. -/
def sessGapUptoRow : OpenClaim := { program := "ytmkgcdgpokidjaa", sum := "efa08d9201fed58fa613d1525673e2183e796536d8896ff9bf9673f288831aa8", func := "consols/consolslaw10.SessGap", spec := "sessGap", apart := false, narrowed := true }
def SessGapUptoSaid : Prop := sessGapUptoRow.holds Try.pinned (OpenSpec.upto sessGapSpec)

/-- 'consolslaw10.SessBeats', WHERE WHAT IT READS IS OF BULK AT MOST 1048576: true; the input reads as it did. -/
def sessBeatsUptoRow : OpenClaim := { program := "ytmkgcdgpokidjaa", sum := "efa08d9201fed58fa613d1525673e2183e796536d8896ff9bf9673f288831aa8", func := "consols/consolslaw10.SessBeats", spec := "sessBeats", apart := false, narrowed := true }
def SessBeatsUptoSaid : Prop := sessBeatsUptoRow.holds Try.pinned (OpenSpec.upto sessBeatsSpec)

/-- 'consolslaw5.MsgBytes', WHERE WHAT IT READS IS OF BULK AT MOST 1048576: true; the input reads as it did. -/
def msgBytesUptoRow : OpenClaim := { program := "ytmkgcdgpokidjaa", sum := "efa08d9201fed58fa613d1525673e2183e796536d8896ff9bf9673f288831aa8", func := "consols/consolslaw5.MsgBytes", spec := "msgBytes", unfollowed := true, recurses := true, apart := false, narrowed := true }
def MsgBytesUptoSaid : Prop := msgBytesUptoRow.holds Try.pinned (OpenSpec.upto msgBytesSpec)

/-- 'consolslaw5.MsgReads', WHERE WHAT IT READS IS OF BULK AT MOST 1048576: true; the input reads as it did. -/
def msgReadsUptoRow : OpenClaim := { program := "ytmkgcdgpokidjaa", sum := "efa08d9201fed58fa613d1525673e2183e796536d8896ff9bf9673f288831aa8", func := "consols/consolslaw5.MsgReads", spec := "msgReads", unfollowed := true, recurses := true, apart := false, narrowed := true }
def MsgReadsUptoSaid : Prop := msgReadsUptoRow.holds Try.pinned (OpenSpec.upto msgReadsSpec)

/-- 'consolslaw5.MsgNumbers', WHERE WHAT IT READS IS OF BULK AT MOST 1048576: true; the input reads as it did. -/
def msgNumbersUptoRow : OpenClaim := { program := "ytmkgcdgpokidjaa", sum := "efa08d9201fed58fa613d1525673e2183e796536d8896ff9bf9673f288831aa8", func := "consols/consolslaw5.MsgNumbers", spec := "msgNumbers", unfollowed := true, recurses := true, apart := false, narrowed := true }
def MsgNumbersUptoSaid : Prop := msgNumbersUptoRow.holds Try.pinned (OpenSpec.upto msgNumbersSpec)

/-- 'consolslaw5.MsgCut', WHERE WHAT IT READS IS OF BULK AT MOST 1048576: true; the input reads as it did. -/
def msgCutUptoRow : OpenClaim := { program := "ytmkgcdgpokidjaa", sum := "efa08d9201fed58fa613d1525673e2183e796536d8896ff9bf9673f288831aa8", func := "consols/consolslaw5.MsgCut", spec := "msgCut", unfollowed := true, recurses := true, apart := false, narrowed := true }
def MsgCutUptoSaid : Prop := msgCutUptoRow.holds Try.pinned (OpenSpec.upto msgCutSpec)

/-- 'consolslaw5.MsgRest', WHERE WHAT IT READS IS OF BULK AT MOST 1048576: true; the input reads as it did. -/
def msgRestUptoRow : OpenClaim := { program := "ytmkgcdgpokidjaa", sum := "efa08d9201fed58fa613d1525673e2183e796536d8896ff9bf9673f288831aa8", func := "consols/consolslaw5.MsgRest", spec := "msgRest", unfollowed := true, recurses := true, apart := false, narrowed := true }
def MsgRestUptoSaid : Prop := msgRestUptoRow.holds Try.pinned (OpenSpec.upto msgRestSpec)

/-- 'consolslaw5.MsgKinds', WHERE WHAT IT READS IS OF BULK AT MOST 1048576: true; the input reads as it did. -/
def msgKindsUptoRow : OpenClaim := { program := "ytmkgcdgpokidjaa", sum := "efa08d9201fed58fa613d1525673e2183e796536d8896ff9bf9673f288831aa8", func := "consols/consolslaw5.MsgKinds", spec := "msgKinds", unfollowed := true, recurses := true, apart := false, narrowed := true }
def MsgKindsUptoSaid : Prop := msgKindsUptoRow.holds Try.pinned (OpenSpec.upto msgKindsSpec)

/-- 'consolslaw10.SessOwn', WHERE WHAT IT READS IS OF BULK AT MOST 1048576: true; the input reads as it did. -/
def sessOwnUptoRow : OpenClaim := { program := "ytmkgcdgpokidjaa", sum := "efa08d9201fed58fa613d1525673e2183e796536d8896ff9bf9673f288831aa8", func := "consols/consolslaw10.SessOwn", spec := "sessOwn", apart := false, narrowed := true }
def SessOwnUptoSaid : Prop := sessOwnUptoRow.holds Try.pinned (OpenSpec.upto sessOwnSpec)

/-- 'consolslaw10.SessSends', WHERE WHAT IT READS IS OF BULK AT MOST 1048576: true; the input reads as it did. -/
def sessSendsUptoRow : OpenClaim := { program := "ytmkgcdgpokidjaa", sum := "efa08d9201fed58fa613d1525673e2183e796536d8896ff9bf9673f288831aa8", func := "consols/consolslaw10.SessSends", spec := "sessSends", apart := false, narrowed := true }
def SessSendsUptoSaid : Prop := sessSendsUptoRow.holds Try.pinned (OpenSpec.upto sessSendsSpec)

/-- 'consolslaw10.SessPlays', WHERE WHAT IT READS IS OF BULK AT MOST 1048576: true; the input reads as it did. -/
def sessPlaysUptoRow : OpenClaim := { program := "ytmkgcdgpokidjaa", sum := "efa08d9201fed58fa613d1525673e2183e796536d8896ff9bf9673f288831aa8", func := "consols/consolslaw10.SessPlays", spec := "sessPlays", apart := false, narrowed := true }
def SessPlaysUptoSaid : Prop := sessPlaysUptoRow.holds Try.pinned (OpenSpec.upto sessPlaysSpec)

/-- 'consolslaw24.LineParts', WHERE WHAT IT READS IS OF BULK AT MOST 1048576: true; the input reads as it did. -/
def linePartsUptoRow : OpenClaim := { program := "ytmkgcdgpokidjaa", sum := "efa08d9201fed58fa613d1525673e2183e796536d8896ff9bf9673f288831aa8", func := "consols/consolslaw24.LineParts", spec := "lineParts", unfollowed := true, recurses := true, apart := false, narrowed := true }
def LinePartsUptoSaid : Prop := linePartsUptoRow.holds Try.pinned (OpenSpec.upto linePartsSpec)

/-- 'consolslaw24.LineNoise', WHERE WHAT IT READS IS OF BULK AT MOST 1048576: true; the input reads as it did. -/
def lineNoiseUptoRow : OpenClaim := { program := "ytmkgcdgpokidjaa", sum := "efa08d9201fed58fa613d1525673e2183e796536d8896ff9bf9673f288831aa8", func := "consols/consolslaw24.LineNoise", spec := "lineNoise", unfollowed := true, recurses := true, apart := false, narrowed := true }
def LineNoiseUptoSaid : Prop := lineNoiseUptoRow.holds Try.pinned (OpenSpec.upto lineNoiseSpec)

/-- 'consolslaw24.LineFull', WHERE WHAT IT READS IS OF BULK AT MOST 1048576: true; the input reads as it did. -/
def lineFullUptoRow : OpenClaim := { program := "ytmkgcdgpokidjaa", sum := "efa08d9201fed58fa613d1525673e2183e796536d8896ff9bf9673f288831aa8", func := "consols/consolslaw24.LineFull", spec := "lineFull", unfollowed := true, recurses := true, apart := false, narrowed := true }
def LineFullUptoSaid : Prop := lineFullUptoRow.holds Try.pinned (OpenSpec.upto lineFullSpec)

end Rows
end Go.Proofs.Ytmkgcdgpokidjaa
