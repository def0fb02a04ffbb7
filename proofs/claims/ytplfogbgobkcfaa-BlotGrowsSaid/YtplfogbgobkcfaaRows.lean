/-
  No cell of these rows narrows 'for every input' (looked for: loops, veiled, ifaces, maps, wideKeys, modest, calm, conditions, laid).
  DERIVED. THE GIVEN ROWS OF THIS SEAT. 14 by the template 'for every input the law returns true; each argument reads behind the call as it read before'; 0 by the template 'total and deterministic' (their statements: YtplfogbgobkcfaaTotals.lean).
  GIVEN WITH THE SEED: the statements are not yours to turn. If you find one false, say at which input.
  Laid BY PROGRAM, IN A SANDBOX (cutbox-rows.mjs): the forced cells as the released guide's own fill.sh prints them over the translation fc8ccc4723d66374… (all of the seat's roots in one cut). By AI agents, Wed Nov 11 2026. No macro, syntax, notation, axiom, sorry.
-/
import Derived.Test.YtplfogbgobkcfaaChecked
import GoSem.Claim
import GoSem.ClaimJoined
import GoSem.ClaimMapViews
import Derived.JoinedTies
import Derived.KernelRfl
namespace Go.Proofs.Ytplfogbgobkcfaa
/- THE CELL 'sum', in the pinned program and in every row, IS THE sha256 OF THE DUMP (.gsa) THAT YtplfogbgobkcfaaProg.lean LOADS. Nothing in Lean hashes anything: it is a label: what it is worth is what the hold of that sum in a sandbox is worth. -/
noncomputable def Try.pinned : Pinned := { name := "ytplfogbgobkcfaa", sum := "fc8ccc4723d66374514c3cd099a042675e9d96c625ce45b30ae57546941f3252", checked := Try.checked }
namespace Rows
def none {H : Type} : Left H := { results := [], args := [] }

/-- 'consolslaw4.SumRows': WHATEVER THE INPUT: true; the input reads as it did. -/
def sumRowsSpec : ChangeSpec := { name := "sumRows", fn := fun _ => fun
  | [d] => { results := [.lit (.bool true)], args := [d] }
  | _ => none }
def sumRowsRow : OpenClaim := { program := "ytplfogbgobkcfaa", sum := "fc8ccc4723d66374514c3cd099a042675e9d96c625ce45b30ae57546941f3252", func := "consols/consolslaw4.SumRows", spec := "sumRows", apart := false }
def SumRowsSaid : Prop := sumRowsRow.holds Try.pinned (OpenSpec.ofChange sumRowsSpec)

/-- ITS FALSE NEIGHBOUR: 'it returns false'. Refute it at one input. -/
def sumRowsWrong : ChangeSpec := { name := "sumRows", fn := fun _ => fun
  | [d] => { results := [.lit (.bool false)], args := [d] }
  | _ => none }
def SumRowsWrongFalsely : Prop := sumRowsRow.holds Try.pinned (OpenSpec.ofChange sumRowsWrong)

/-- 'consolslaw4.SumTurned': WHATEVER THE INPUT: true; the input reads as it did. -/
def sumTurnedSpec : ChangeSpec := { name := "sumTurned", fn := fun _ => fun
  | [d1, d2, d3] => { results := [.lit (.bool true)], args := [d1, d2, d3] }
  | _ => none }
def sumTurnedRow : OpenClaim := { program := "ytplfogbgobkcfaa", sum := "fc8ccc4723d66374514c3cd099a042675e9d96c625ce45b30ae57546941f3252", func := "consols/consolslaw4.SumTurned", spec := "sumTurned", apart := false }
def SumTurnedSaid : Prop := sumTurnedRow.holds Try.pinned (OpenSpec.ofChange sumTurnedSpec)

/-- ITS FALSE NEIGHBOUR: 'it returns false'. Refute it at one input. -/
def sumTurnedWrong : ChangeSpec := { name := "sumTurned", fn := fun _ => fun
  | [d1, d2, d3] => { results := [.lit (.bool false)], args := [d1, d2, d3] }
  | _ => none }
def SumTurnedWrongFalsely : Prop := sumTurnedRow.holds Try.pinned (OpenSpec.ofChange sumTurnedWrong)

/-- 'consolslaw4.SumTells': WHATEVER THE INPUT: true; the input reads as it did. -/
def sumTellsSpec : ChangeSpec := { name := "sumTells", fn := fun _ => fun
  | [d1, d2] => { results := [.lit (.bool true)], args := [d1, d2] }
  | _ => none }
def sumTellsRow : OpenClaim := { program := "ytplfogbgobkcfaa", sum := "fc8ccc4723d66374514c3cd099a042675e9d96c625ce45b30ae57546941f3252", func := "consols/consolslaw4.SumTells", spec := "sumTells", apart := false }
def SumTellsSaid : Prop := sumTellsRow.holds Try.pinned (OpenSpec.ofChange sumTellsSpec)

/-- ITS FALSE NEIGHBOUR: 'it returns false'. Refute it at one input. -/
def sumTellsWrong : ChangeSpec := { name := "sumTells", fn := fun _ => fun
  | [d1, d2] => { results := [.lit (.bool false)], args := [d1, d2] }
  | _ => none }
def SumTellsWrongFalsely : Prop := sumTellsRow.holds Try.pinned (OpenSpec.ofChange sumTellsWrong)

/-- 'consolslaw4.SumChains': WHATEVER THE INPUT: true; the input reads as it did. -/
def sumChainsSpec : ChangeSpec := { name := "sumChains", fn := fun _ => fun
  | [d1, d2, d3] => { results := [.lit (.bool true)], args := [d1, d2, d3] }
  | _ => none }
def sumChainsRow : OpenClaim := { program := "ytplfogbgobkcfaa", sum := "fc8ccc4723d66374514c3cd099a042675e9d96c625ce45b30ae57546941f3252", func := "consols/consolslaw4.SumChains", spec := "sumChains", apart := false }
def SumChainsSaid : Prop := sumChainsRow.holds Try.pinned (OpenSpec.ofChange sumChainsSpec)

/-- ITS FALSE NEIGHBOUR: 'it returns false'. Refute it at one input. -/
def sumChainsWrong : ChangeSpec := { name := "sumChains", fn := fun _ => fun
  | [d1, d2, d3] => { results := [.lit (.bool false)], args := [d1, d2, d3] }
  | _ => none }
def SumChainsWrongFalsely : Prop := sumChainsRow.holds Try.pinned (OpenSpec.ofChange sumChainsWrong)

/-- 'consolslaw8.MailOrder': WHATEVER THE INPUT: true; the input reads as it did. -/
def mailOrderSpec : ChangeSpec := { name := "mailOrder", fn := fun _ => fun
  | [d1, d2] => { results := [.lit (.bool true)], args := [d1, d2] }
  | _ => none }
def mailOrderRow : OpenClaim := { program := "ytplfogbgobkcfaa", sum := "fc8ccc4723d66374514c3cd099a042675e9d96c625ce45b30ae57546941f3252", func := "consols/consolslaw8.MailOrder", spec := "mailOrder", apart := false }
def MailOrderSaid : Prop := mailOrderRow.holds Try.pinned (OpenSpec.ofChange mailOrderSpec)

/-- ITS FALSE NEIGHBOUR: 'it returns false'. Refute it at one input. -/
def mailOrderWrong : ChangeSpec := { name := "mailOrder", fn := fun _ => fun
  | [d1, d2] => { results := [.lit (.bool false)], args := [d1, d2] }
  | _ => none }
def MailOrderWrongFalsely : Prop := mailOrderRow.holds Try.pinned (OpenSpec.ofChange mailOrderWrong)

/-- 'consolslaw8.MailFirsts': WHATEVER THE INPUT: true; the input reads as it did. -/
def mailFirstsSpec : ChangeSpec := { name := "mailFirsts", fn := fun _ => fun
  | [d] => { results := [.lit (.bool true)], args := [d] }
  | _ => none }
def mailFirstsRow : OpenClaim := { program := "ytplfogbgobkcfaa", sum := "fc8ccc4723d66374514c3cd099a042675e9d96c625ce45b30ae57546941f3252", func := "consols/consolslaw8.MailFirsts", spec := "mailFirsts", apart := false }
def MailFirstsSaid : Prop := mailFirstsRow.holds Try.pinned (OpenSpec.ofChange mailFirstsSpec)

/-- ITS FALSE NEIGHBOUR: 'it returns false'. Refute it at one input. -/
def mailFirstsWrong : ChangeSpec := { name := "mailFirsts", fn := fun _ => fun
  | [d] => { results := [.lit (.bool false)], args := [d] }
  | _ => none }
def MailFirstsWrongFalsely : Prop := mailFirstsRow.holds Try.pinned (OpenSpec.ofChange mailFirstsWrong)

/-- 'consolslaw9.KeepPlays': WHATEVER THE INPUT: true; the input reads as it did. -/
def keepPlaysSpec : ChangeSpec := { name := "keepPlays", fn := fun _ => fun
  | [d1, d2] => { results := [.lit (.bool true)], args := [d1, d2] }
  | _ => none }
def keepPlaysRow : OpenClaim := { program := "ytplfogbgobkcfaa", sum := "fc8ccc4723d66374514c3cd099a042675e9d96c625ce45b30ae57546941f3252", func := "consols/consolslaw9.KeepPlays", spec := "keepPlays", apart := false }
def KeepPlaysSaid : Prop := keepPlaysRow.holds Try.pinned (OpenSpec.ofChange keepPlaysSpec)

/-- ITS FALSE NEIGHBOUR: 'it returns false'. Refute it at one input. -/
def keepPlaysWrong : ChangeSpec := { name := "keepPlays", fn := fun _ => fun
  | [d1, d2] => { results := [.lit (.bool false)], args := [d1, d2] }
  | _ => none }
def KeepPlaysWrongFalsely : Prop := keepPlaysRow.holds Try.pinned (OpenSpec.ofChange keepPlaysWrong)

/-- 'consolslaw9.KeepLast': WHATEVER THE INPUT: true; the input reads as it did. -/
def keepLastSpec : ChangeSpec := { name := "keepLast", fn := fun _ => fun
  | [d1, d2] => { results := [.lit (.bool true)], args := [d1, d2] }
  | _ => none }
def keepLastRow : OpenClaim := { program := "ytplfogbgobkcfaa", sum := "fc8ccc4723d66374514c3cd099a042675e9d96c625ce45b30ae57546941f3252", func := "consols/consolslaw9.KeepLast", spec := "keepLast", apart := false }
def KeepLastSaid : Prop := keepLastRow.holds Try.pinned (OpenSpec.ofChange keepLastSpec)

/-- ITS FALSE NEIGHBOUR: 'it returns false'. Refute it at one input. -/
def keepLastWrong : ChangeSpec := { name := "keepLast", fn := fun _ => fun
  | [d1, d2] => { results := [.lit (.bool false)], args := [d1, d2] }
  | _ => none }
def KeepLastWrongFalsely : Prop := keepLastRow.holds Try.pinned (OpenSpec.ofChange keepLastWrong)

/-- 'consolslaw9.KeepOwn': WHATEVER THE INPUT: true; the input reads as it did. -/
def keepOwnSpec : ChangeSpec := { name := "keepOwn", fn := fun _ => fun
  | [d1, d2] => { results := [.lit (.bool true)], args := [d1, d2] }
  | _ => none }
def keepOwnRow : OpenClaim := { program := "ytplfogbgobkcfaa", sum := "fc8ccc4723d66374514c3cd099a042675e9d96c625ce45b30ae57546941f3252", func := "consols/consolslaw9.KeepOwn", spec := "keepOwn", apart := false }
def KeepOwnSaid : Prop := keepOwnRow.holds Try.pinned (OpenSpec.ofChange keepOwnSpec)

/-- ITS FALSE NEIGHBOUR: 'it returns false'. Refute it at one input. -/
def keepOwnWrong : ChangeSpec := { name := "keepOwn", fn := fun _ => fun
  | [d1, d2] => { results := [.lit (.bool false)], args := [d1, d2] }
  | _ => none }
def KeepOwnWrongFalsely : Prop := keepOwnRow.holds Try.pinned (OpenSpec.ofChange keepOwnWrong)

/-- 'consolslaw8.MailPlays': WHATEVER THE INPUT: true; the input reads as it did. -/
def mailPlaysSpec : ChangeSpec := { name := "mailPlays", fn := fun _ => fun
  | [d1, d2] => { results := [.lit (.bool true)], args := [d1, d2] }
  | _ => none }
def mailPlaysRow : OpenClaim := { program := "ytplfogbgobkcfaa", sum := "fc8ccc4723d66374514c3cd099a042675e9d96c625ce45b30ae57546941f3252", func := "consols/consolslaw8.MailPlays", spec := "mailPlays", apart := false }
def MailPlaysSaid : Prop := mailPlaysRow.holds Try.pinned (OpenSpec.ofChange mailPlaysSpec)

/-- ITS FALSE NEIGHBOUR: 'it returns false'. Refute it at one input. -/
def mailPlaysWrong : ChangeSpec := { name := "mailPlays", fn := fun _ => fun
  | [d1, d2] => { results := [.lit (.bool false)], args := [d1, d2] }
  | _ => none }
def MailPlaysWrongFalsely : Prop := mailPlaysRow.holds Try.pinned (OpenSpec.ofChange mailPlaysWrong)

/-- 'consolslaw8.MailOwn': WHATEVER THE INPUT: true; the input reads as it did. -/
def mailOwnSpec : ChangeSpec := { name := "mailOwn", fn := fun _ => fun
  | [d1, d2] => { results := [.lit (.bool true)], args := [d1, d2] }
  | _ => none }
def mailOwnRow : OpenClaim := { program := "ytplfogbgobkcfaa", sum := "fc8ccc4723d66374514c3cd099a042675e9d96c625ce45b30ae57546941f3252", func := "consols/consolslaw8.MailOwn", spec := "mailOwn", apart := false }
def MailOwnSaid : Prop := mailOwnRow.holds Try.pinned (OpenSpec.ofChange mailOwnSpec)

/-- ITS FALSE NEIGHBOUR: 'it returns false'. Refute it at one input. -/
def mailOwnWrong : ChangeSpec := { name := "mailOwn", fn := fun _ => fun
  | [d1, d2] => { results := [.lit (.bool false)], args := [d1, d2] }
  | _ => none }
def MailOwnWrongFalsely : Prop := mailOwnRow.holds Try.pinned (OpenSpec.ofChange mailOwnWrong)

/-- 'consolslaw21.BlotPlays': WHATEVER THE INPUT: true; the input reads as it did. -/
def blotPlaysSpec : ChangeSpec := { name := "blotPlays", fn := fun _ => fun
  | [d] => { results := [.lit (.bool true)], args := [d] }
  | _ => none }
def blotPlaysRow : OpenClaim := { program := "ytplfogbgobkcfaa", sum := "fc8ccc4723d66374514c3cd099a042675e9d96c625ce45b30ae57546941f3252", func := "consols/consolslaw21.BlotPlays", spec := "blotPlays", apart := false }
def BlotPlaysSaid : Prop := blotPlaysRow.holds Try.pinned (OpenSpec.ofChange blotPlaysSpec)

/-- ITS FALSE NEIGHBOUR: 'it returns false'. Refute it at one input. -/
def blotPlaysWrong : ChangeSpec := { name := "blotPlays", fn := fun _ => fun
  | [d] => { results := [.lit (.bool false)], args := [d] }
  | _ => none }
def BlotPlaysWrongFalsely : Prop := blotPlaysRow.holds Try.pinned (OpenSpec.ofChange blotPlaysWrong)

/-- 'consolslaw21.BlotHeads': WHATEVER THE INPUT: true; the input reads as it did. -/
def blotHeadsSpec : ChangeSpec := { name := "blotHeads", fn := fun _ => fun
  | [d] => { results := [.lit (.bool true)], args := [d] }
  | _ => none }
def blotHeadsRow : OpenClaim := { program := "ytplfogbgobkcfaa", sum := "fc8ccc4723d66374514c3cd099a042675e9d96c625ce45b30ae57546941f3252", func := "consols/consolslaw21.BlotHeads", spec := "blotHeads", apart := false }
def BlotHeadsSaid : Prop := blotHeadsRow.holds Try.pinned (OpenSpec.ofChange blotHeadsSpec)

/-- ITS FALSE NEIGHBOUR: 'it returns false'. Refute it at one input. -/
def blotHeadsWrong : ChangeSpec := { name := "blotHeads", fn := fun _ => fun
  | [d] => { results := [.lit (.bool false)], args := [d] }
  | _ => none }
def BlotHeadsWrongFalsely : Prop := blotHeadsRow.holds Try.pinned (OpenSpec.ofChange blotHeadsWrong)

/-- 'consolslaw21.BlotGrows': WHATEVER THE INPUT: true; the input reads as it did. -/
def blotGrowsSpec : ChangeSpec := { name := "blotGrows", fn := fun _ => fun
  | [d1, d2] => { results := [.lit (.bool true)], args := [d1, d2] }
  | _ => none }
def blotGrowsRow : OpenClaim := { program := "ytplfogbgobkcfaa", sum := "fc8ccc4723d66374514c3cd099a042675e9d96c625ce45b30ae57546941f3252", func := "consols/consolslaw21.BlotGrows", spec := "blotGrows", apart := false }
def BlotGrowsSaid : Prop := blotGrowsRow.holds Try.pinned (OpenSpec.ofChange blotGrowsSpec)

/-- ITS FALSE NEIGHBOUR: 'it returns false'. Refute it at one input. -/
def blotGrowsWrong : ChangeSpec := { name := "blotGrows", fn := fun _ => fun
  | [d1, d2] => { results := [.lit (.bool false)], args := [d1, d2] }
  | _ => none }
def BlotGrowsWrongFalsely : Prop := blotGrowsRow.holds Try.pinned (OpenSpec.ofChange blotGrowsWrong)

/- THE SECOND FORM. 'bulk': how many values and letters a reading holds, each counted each time it is reached (what is shared counts as often as it is met; a slice's spare places count too). A statement '..UptoSaid' is the law's where the arguments, and the package variables that the reading takes, are together of bulk at most 1048576: NARROWER than '..Said'. Prove '..Said' where nothing that the law and all that it calls make is longer than what came in: it says more and counts as full. Else prove '..UptoSaid'. A law counts once. -/
mutual
def uptoBulk {H : Type} : DataW H → Nat
  | .lit (.string bytes) => bytes.length + 1
  | .lit _ => 1
  | .nil => 1
  | .ptr d => uptoBulk d + 1
  | .slice elems spare => uptoBulkAll elems + uptoBulkAll spare + 1
  | .agg parts => uptoBulkAll parts + 1
  | .iface _ d => uptoBulk d + 1
  | .map entries => uptoBulkEntries entries + 1
  | .held _ => 1
def uptoBulkAll {H : Type} : List (DataW H) → Nat
  | [] => 0
  | d :: r => uptoBulk d + uptoBulkAll r
def uptoBulkEntries {H : Type} : List (Lit × DataW H) → Nat
  | [] => 0
  | x :: r => uptoBulkEntry x + uptoBulkEntries r
def uptoBulkEntry {H : Type} : Lit × DataW H → Nat
  | (.string bytes, d) => bytes.length + uptoBulk d + 1
  | (_, d) => uptoBulk d + 1
 end
def uptoSmall : (H : Type) → List (DataW H) → Bool := fun _ ds => decide (uptoBulkAll ds ≤ 1048576)
def OpenSpec.upto (s : _root_.Go.ChangeSpec) : _root_.Go.OpenSpec := { _root_.Go.OpenSpec.ofChange s with cond := some uptoSmall }

/-- 'consolslaw4.SumRows', WHERE WHAT IT READS IS OF BULK AT MOST 1048576: true; the input reads as it did. -/
def sumRowsUptoRow : OpenClaim := { program := "ytplfogbgobkcfaa", sum := "fc8ccc4723d66374514c3cd099a042675e9d96c625ce45b30ae57546941f3252", func := "consols/consolslaw4.SumRows", spec := "sumRows", apart := false, narrowed := true }
def SumRowsUptoSaid : Prop := sumRowsUptoRow.holds Try.pinned (OpenSpec.upto sumRowsSpec)

/-- 'consolslaw4.SumTurned', WHERE WHAT IT READS IS OF BULK AT MOST 1048576: true; the input reads as it did. -/
def sumTurnedUptoRow : OpenClaim := { program := "ytplfogbgobkcfaa", sum := "fc8ccc4723d66374514c3cd099a042675e9d96c625ce45b30ae57546941f3252", func := "consols/consolslaw4.SumTurned", spec := "sumTurned", apart := false, narrowed := true }
def SumTurnedUptoSaid : Prop := sumTurnedUptoRow.holds Try.pinned (OpenSpec.upto sumTurnedSpec)

/-- 'consolslaw4.SumTells', WHERE WHAT IT READS IS OF BULK AT MOST 1048576: true; the input reads as it did. -/
def sumTellsUptoRow : OpenClaim := { program := "ytplfogbgobkcfaa", sum := "fc8ccc4723d66374514c3cd099a042675e9d96c625ce45b30ae57546941f3252", func := "consols/consolslaw4.SumTells", spec := "sumTells", apart := false, narrowed := true }
def SumTellsUptoSaid : Prop := sumTellsUptoRow.holds Try.pinned (OpenSpec.upto sumTellsSpec)

/-- 'consolslaw4.SumChains', WHERE WHAT IT READS IS OF BULK AT MOST 1048576: true; the input reads as it did. -/
def sumChainsUptoRow : OpenClaim := { program := "ytplfogbgobkcfaa", sum := "fc8ccc4723d66374514c3cd099a042675e9d96c625ce45b30ae57546941f3252", func := "consols/consolslaw4.SumChains", spec := "sumChains", apart := false, narrowed := true }
def SumChainsUptoSaid : Prop := sumChainsUptoRow.holds Try.pinned (OpenSpec.upto sumChainsSpec)

/-- 'consolslaw8.MailOrder', WHERE WHAT IT READS IS OF BULK AT MOST 1048576: true; the input reads as it did. -/
def mailOrderUptoRow : OpenClaim := { program := "ytplfogbgobkcfaa", sum := "fc8ccc4723d66374514c3cd099a042675e9d96c625ce45b30ae57546941f3252", func := "consols/consolslaw8.MailOrder", spec := "mailOrder", apart := false, narrowed := true }
def MailOrderUptoSaid : Prop := mailOrderUptoRow.holds Try.pinned (OpenSpec.upto mailOrderSpec)

/-- 'consolslaw8.MailFirsts', WHERE WHAT IT READS IS OF BULK AT MOST 1048576: true; the input reads as it did. -/
def mailFirstsUptoRow : OpenClaim := { program := "ytplfogbgobkcfaa", sum := "fc8ccc4723d66374514c3cd099a042675e9d96c625ce45b30ae57546941f3252", func := "consols/consolslaw8.MailFirsts", spec := "mailFirsts", apart := false, narrowed := true }
def MailFirstsUptoSaid : Prop := mailFirstsUptoRow.holds Try.pinned (OpenSpec.upto mailFirstsSpec)

/-- 'consolslaw9.KeepPlays', WHERE WHAT IT READS IS OF BULK AT MOST 1048576: true; the input reads as it did. -/
def keepPlaysUptoRow : OpenClaim := { program := "ytplfogbgobkcfaa", sum := "fc8ccc4723d66374514c3cd099a042675e9d96c625ce45b30ae57546941f3252", func := "consols/consolslaw9.KeepPlays", spec := "keepPlays", apart := false, narrowed := true }
def KeepPlaysUptoSaid : Prop := keepPlaysUptoRow.holds Try.pinned (OpenSpec.upto keepPlaysSpec)

/-- 'consolslaw9.KeepLast', WHERE WHAT IT READS IS OF BULK AT MOST 1048576: true; the input reads as it did. -/
def keepLastUptoRow : OpenClaim := { program := "ytplfogbgobkcfaa", sum := "fc8ccc4723d66374514c3cd099a042675e9d96c625ce45b30ae57546941f3252", func := "consols/consolslaw9.KeepLast", spec := "keepLast", apart := false, narrowed := true }
def KeepLastUptoSaid : Prop := keepLastUptoRow.holds Try.pinned (OpenSpec.upto keepLastSpec)

/-- 'consolslaw9.KeepOwn', WHERE WHAT IT READS IS OF BULK AT MOST 1048576: true; the input reads as it did. -/
def keepOwnUptoRow : OpenClaim := { program := "ytplfogbgobkcfaa", sum := "fc8ccc4723d66374514c3cd099a042675e9d96c625ce45b30ae57546941f3252", func := "consols/consolslaw9.KeepOwn", spec := "keepOwn", apart := false, narrowed := true }
def KeepOwnUptoSaid : Prop := keepOwnUptoRow.holds Try.pinned (OpenSpec.upto keepOwnSpec)

/-- 'consolslaw8.MailPlays', WHERE WHAT IT READS IS OF BULK AT MOST 1048576: true; the input reads as it did. -/
def mailPlaysUptoRow : OpenClaim := { program := "ytplfogbgobkcfaa", sum := "fc8ccc4723d66374514c3cd099a042675e9d96c625ce45b30ae57546941f3252", func := "consols/consolslaw8.MailPlays", spec := "mailPlays", apart := false, narrowed := true }
def MailPlaysUptoSaid : Prop := mailPlaysUptoRow.holds Try.pinned (OpenSpec.upto mailPlaysSpec)

/-- 'consolslaw8.MailOwn', WHERE WHAT IT READS IS OF BULK AT MOST 1048576: true; the input reads as it did. -/
def mailOwnUptoRow : OpenClaim := { program := "ytplfogbgobkcfaa", sum := "fc8ccc4723d66374514c3cd099a042675e9d96c625ce45b30ae57546941f3252", func := "consols/consolslaw8.MailOwn", spec := "mailOwn", apart := false, narrowed := true }
def MailOwnUptoSaid : Prop := mailOwnUptoRow.holds Try.pinned (OpenSpec.upto mailOwnSpec)

/-- 'consolslaw21.BlotPlays', WHERE WHAT IT READS IS OF BULK AT MOST 1048576: true; the input reads as it did. -/
def blotPlaysUptoRow : OpenClaim := { program := "ytplfogbgobkcfaa", sum := "fc8ccc4723d66374514c3cd099a042675e9d96c625ce45b30ae57546941f3252", func := "consols/consolslaw21.BlotPlays", spec := "blotPlays", apart := false, narrowed := true }
def BlotPlaysUptoSaid : Prop := blotPlaysUptoRow.holds Try.pinned (OpenSpec.upto blotPlaysSpec)

/-- 'consolslaw21.BlotHeads', WHERE WHAT IT READS IS OF BULK AT MOST 1048576: true; the input reads as it did. -/
def blotHeadsUptoRow : OpenClaim := { program := "ytplfogbgobkcfaa", sum := "fc8ccc4723d66374514c3cd099a042675e9d96c625ce45b30ae57546941f3252", func := "consols/consolslaw21.BlotHeads", spec := "blotHeads", apart := false, narrowed := true }
def BlotHeadsUptoSaid : Prop := blotHeadsUptoRow.holds Try.pinned (OpenSpec.upto blotHeadsSpec)

/-- 'consolslaw21.BlotGrows', WHERE WHAT IT READS IS OF BULK AT MOST 1048576: true; the input reads as it did. -/
def blotGrowsUptoRow : OpenClaim := { program := "ytplfogbgobkcfaa", sum := "fc8ccc4723d66374514c3cd099a042675e9d96c625ce45b30ae57546941f3252", func := "consols/consolslaw21.BlotGrows", spec := "blotGrows", apart := false, narrowed := true }
def BlotGrowsUptoSaid : Prop := blotGrowsUptoRow.holds Try.pinned (OpenSpec.upto blotGrowsSpec)

end Rows
end Go.Proofs.Ytplfogbgobkcfaa
