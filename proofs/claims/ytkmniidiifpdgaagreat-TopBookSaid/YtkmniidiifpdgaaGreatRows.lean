/-
  No cell of these rows narrows 'for every input' (looked for: loops, veiled, ifaces, maps, wideKeys, modest, calm, conditions, laid).
  DERIVED. THE GIVEN ROWS OF THIS SEAT. 5 by the template 'for every input the law returns true; each argument reads behind the call as it read before'; 0 by the template 'total and deterministic' (their statements: YtkmniidiifpdgaaGreatTotals.lean).
  GIVEN WITH THE SEED: the statements are not yours to turn. If you find one false, say at which input.
  Laid BY PROGRAM, IN A SANDBOX (cutbox-rows.mjs): the forced cells as the released guide's own fill.sh prints them over the translation 56917532921c25ab… (all of the seat's roots in one cut). By AI agents, Wed Nov 11 2026. No macro, syntax, notation, axiom, sorry.
-/
import Derived.Test.YtkmniidiifpdgaaGreatChecked
import GoSem.Claim
import GoSem.ClaimJoined
import GoSem.ClaimMapViews
import Derived.JoinedTies
import Derived.KernelRfl
namespace Go.Proofs.YtkmniidiifpdgaaGreat
/- THE CELL 'sum', in the pinned program and in every row, IS THE sha256 OF THE DUMP (.gsa) THAT YtkmniidiifpdgaaGreatProg.lean LOADS. Nothing in Lean hashes anything: it is a label: what it is worth is what the hold of that sum in a sandbox is worth. -/
noncomputable def Tryz.pinned : Pinned := { name := "ytkmniidiifpdgaagreat", sum := "56917532921c25abf280e56098d4ede3eaf7292a9416da38c05e7f72669efdda", checked := Tryz.checked }
namespace Rows
def none {H : Type} : Left H := { results := [], args := [] }

/-- 'consolstop.TopBook': WHATEVER THE INPUT: true; the input reads as it did. -/
def topBookSpec : ChangeSpec := { name := "topBook", fn := fun _ => fun
  | [d1, d2] => { results := [.lit (.bool true)], args := [d1, d2] }
  | _ => none }
def topBookRow : OpenClaim := { program := "ytkmniidiifpdgaagreat", sum := "56917532921c25abf280e56098d4ede3eaf7292a9416da38c05e7f72669efdda", func := "consols/consolstop.TopBook", spec := "topBook", inPlace := ["slices.overlaps[consols/api.Quote]", "slices.overlaps[consols/api.Due]", "math/bits.Add64", "slices.overlaps[consols/api.Ask]"], unfollowed := true, recurses := true, apart := false }
def TopBookSaid : Prop := topBookRow.holds Tryz.pinned (OpenSpec.ofChange topBookSpec)

/-- ITS FALSE NEIGHBOUR: 'it returns false'. Refute it at one input. -/
def topBookWrong : ChangeSpec := { name := "topBook", fn := fun _ => fun
  | [d1, d2] => { results := [.lit (.bool false)], args := [d1, d2] }
  | _ => none }
def TopBookWrongFalsely : Prop := topBookRow.holds Tryz.pinned (OpenSpec.ofChange topBookWrong)

/-- 'consolstop.TopBooks': WHATEVER THE INPUT: true; the input reads as it did. -/
def topBooksSpec : ChangeSpec := { name := "topBooks", fn := fun _ => fun
  | [d1, d2] => { results := [.lit (.bool true)], args := [d1, d2] }
  | _ => none }
def topBooksRow : OpenClaim := { program := "ytkmniidiifpdgaagreat", sum := "56917532921c25abf280e56098d4ede3eaf7292a9416da38c05e7f72669efdda", func := "consols/consolstop.TopBooks", spec := "topBooks", inPlace := ["slices.overlaps[consols/api.Quote]", "slices.overlaps[consols/api.Due]", "math/bits.Add64", "slices.overlaps[consols/api.Ask]"], unfollowed := true, recurses := true, apart := false }
def TopBooksSaid : Prop := topBooksRow.holds Tryz.pinned (OpenSpec.ofChange topBooksSpec)

/-- ITS FALSE NEIGHBOUR: 'it returns false'. Refute it at one input. -/
def topBooksWrong : ChangeSpec := { name := "topBooks", fn := fun _ => fun
  | [d1, d2] => { results := [.lit (.bool false)], args := [d1, d2] }
  | _ => none }
def TopBooksWrongFalsely : Prop := topBooksRow.holds Tryz.pinned (OpenSpec.ofChange topBooksWrong)

/-- 'consolstop.TopOrders': WHATEVER THE INPUT: true; the input reads as it did. -/
def topOrdersSpec : ChangeSpec := { name := "topOrders", fn := fun _ => fun
  | [d1, d2] => { results := [.lit (.bool true)], args := [d1, d2] }
  | _ => none }
def topOrdersRow : OpenClaim := { program := "ytkmniidiifpdgaagreat", sum := "56917532921c25abf280e56098d4ede3eaf7292a9416da38c05e7f72669efdda", func := "consols/consolstop.TopOrders", spec := "topOrders", inPlace := ["slices.overlaps[consols/api.Quote]", "slices.overlaps[consols/api.Due]", "math/bits.Add64", "slices.overlaps[consols/api.Ask]"], unfollowed := true, recurses := true, apart := false }
def TopOrdersSaid : Prop := topOrdersRow.holds Tryz.pinned (OpenSpec.ofChange topOrdersSpec)

/-- ITS FALSE NEIGHBOUR: 'it returns false'. Refute it at one input. -/
def topOrdersWrong : ChangeSpec := { name := "topOrders", fn := fun _ => fun
  | [d1, d2] => { results := [.lit (.bool false)], args := [d1, d2] }
  | _ => none }
def TopOrdersWrongFalsely : Prop := topOrdersRow.holds Tryz.pinned (OpenSpec.ofChange topOrdersWrong)

/-- 'consolstop.TopCut': WHATEVER THE INPUT: true; the input reads as it did. -/
def topCutSpec : ChangeSpec := { name := "topCut", fn := fun _ => fun
  | [d1, d2, d3] => { results := [.lit (.bool true)], args := [d1, d2, d3] }
  | _ => none }
def topCutRow : OpenClaim := { program := "ytkmniidiifpdgaagreat", sum := "56917532921c25abf280e56098d4ede3eaf7292a9416da38c05e7f72669efdda", func := "consols/consolstop.TopCut", spec := "topCut", inPlace := ["slices.overlaps[consols/api.Quote]", "slices.overlaps[consols/api.Due]", "math/bits.Add64", "slices.overlaps[consols/api.Ask]"], unfollowed := true, recurses := true, apart := false }
def TopCutSaid : Prop := topCutRow.holds Tryz.pinned (OpenSpec.ofChange topCutSpec)

/-- ITS FALSE NEIGHBOUR: 'it returns false'. Refute it at one input. -/
def topCutWrong : ChangeSpec := { name := "topCut", fn := fun _ => fun
  | [d1, d2, d3] => { results := [.lit (.bool false)], args := [d1, d2, d3] }
  | _ => none }
def TopCutWrongFalsely : Prop := topCutRow.holds Tryz.pinned (OpenSpec.ofChange topCutWrong)

/-- 'consolstop.TopStaff': WHATEVER THE INPUT: true; the input reads as it did. -/
def topStaffSpec : ChangeSpec := { name := "topStaff", fn := fun _ => fun
  | [d1, d2, d3, d4] => { results := [.lit (.bool true)], args := [d1, d2, d3, d4] }
  | _ => none }
def topStaffRow : OpenClaim := { program := "ytkmniidiifpdgaagreat", sum := "56917532921c25abf280e56098d4ede3eaf7292a9416da38c05e7f72669efdda", func := "consols/consolstop.TopStaff", spec := "topStaff", inPlace := ["slices.overlaps[consols/api.Quote]", "slices.overlaps[consols/api.Due]", "math/bits.Add64", "slices.overlaps[consols/api.Ask]"], unfollowed := true, recurses := true, apart := false }
def TopStaffSaid : Prop := topStaffRow.holds Tryz.pinned (OpenSpec.ofChange topStaffSpec)

/-- ITS FALSE NEIGHBOUR: 'it returns false'. Refute it at one input. -/
def topStaffWrong : ChangeSpec := { name := "topStaff", fn := fun _ => fun
  | [d1, d2, d3, d4] => { results := [.lit (.bool false)], args := [d1, d2, d3, d4] }
  | _ => none }
def TopStaffWrongFalsely : Prop := topStaffRow.holds Tryz.pinned (OpenSpec.ofChange topStaffWrong)

/- THE SECOND FORM. 'bulk': how many values and letters a reading holds, each counted each time it is reached (what is shared counts as often as it is met; a slice's spare places count too). A statement '..UptoSaid' is the law's where the arguments, and the package variables that the reading takes, are together of bulk at most 1048576: NARROWER than '..Said'. Prove '..Said' where nothing that the law and all that it calls make is longer than what came in: it says more and counts as full. Else prove '..UptoSaid'. A law counts once. -/
mutual
def uptoBulk {H : Type} : DataW H → Nat
  | .lit (.string bytes) => bytes.length + 1
  | .lit _ => 1
  | .nil => 1
  | .ptr d => uptoBulk d + 1
  | .slice elems spare => uptoBulkAll elems + uptoBulkAll spare + 1
  | .agg parts => uptoBulkAll parts + 1
  | .iface _ d => uptoBulk d + 1
  | .map entries => uptoBulkEntries entries + 1
  | .held _ => 1
def uptoBulkAll {H : Type} : List (DataW H) → Nat
  | [] => 0
  | d :: r => uptoBulk d + uptoBulkAll r
def uptoBulkEntries {H : Type} : List (Lit × DataW H) → Nat
  | [] => 0
  | x :: r => uptoBulkEntry x + uptoBulkEntries r
def uptoBulkEntry {H : Type} : Lit × DataW H → Nat
  | (.string bytes, d) => bytes.length + uptoBulk d + 1
  | (_, d) => uptoBulk d + 1
 end
def uptoSmall : (H : Type) → List (DataW H) → Bool := fun _ ds => decide (uptoBulkAll ds ≤ 1048576)
def OpenSpec.upto (s : _root_.Go.ChangeSpec) : _root_.Go.OpenSpec := { _root_.Go.OpenSpec.ofChange s with cond := some uptoSmall }

/-- 'consolstop.TopBook', WHERE WHAT IT READS IS OF BULK AT MOST 1048576: true; the input reads as it did. -/
def topBookUptoRow : OpenClaim := { program := "ytkmniidiifpdgaagreat", sum := "56917532921c25abf280e56098d4ede3eaf7292a9416da38c05e7f72669efdda", func := "consols/consolstop.TopBook", spec := "topBook", inPlace := ["slices.overlaps[consols/api.Quote]", "slices.overlaps[consols/api.Due]", "math/bits.Add64", "slices.overlaps[consols/api.Ask]"], unfollowed := true, recurses := true, apart := false, narrowed := true }
def TopBookUptoSaid : Prop := topBookUptoRow.holds Tryz.pinned (OpenSpec.upto topBookSpec)

/-- 'consolstop.TopBooks', WHERE WHAT IT READS IS OF BULK AT MOST 1048576: true; the input reads as it did. -/
def topBooksUptoRow : OpenClaim := { program := "ytkmniidiifpdgaagreat", sum := "56917532921c25abf280e56098d4ede3eaf7292a9416da38c05e7f72669efdda", func := "consols/consolstop.TopBooks", spec := "topBooks", inPlace := ["slices.overlaps[consols/api.Quote]", "slices.overlaps[consols/api.Due]", "math/bits.Add64", "slices.overlaps[consols/api.Ask]"], unfollowed := true, recurses := true, apart := false, narrowed := true }
def TopBooksUptoSaid : Prop := topBooksUptoRow.holds Tryz.pinned (OpenSpec.upto topBooksSpec)

/-- 'consolstop.TopOrders', WHERE WHAT IT READS IS OF BULK AT MOST 1048576: true; the input reads as it did. -/
def topOrdersUptoRow : OpenClaim := { program := "ytkmniidiifpdgaagreat", sum := "56917532921c25abf280e56098d4ede3eaf7292a9416da38c05e7f72669efdda", func := "consols/consolstop.TopOrders", spec := "topOrders", inPlace := ["slices.overlaps[consols/api.Quote]", "slices.overlaps[consols/api.Due]", "math/bits.Add64", "slices.overlaps[consols/api.Ask]"], unfollowed := true, recurses := true, apart := false, narrowed := true }
def TopOrdersUptoSaid : Prop := topOrdersUptoRow.holds Tryz.pinned (OpenSpec.upto topOrdersSpec)

/-- 'consolstop.TopCut', WHERE WHAT IT READS IS OF BULK AT MOST 1048576: true; the input reads as it did. -/
def topCutUptoRow : OpenClaim := { program := "ytkmniidiifpdgaagreat", sum := "56917532921c25abf280e56098d4ede3eaf7292a9416da38c05e7f72669efdda", func := "consols/consolstop.TopCut", spec := "topCut", inPlace := ["slices.overlaps[consols/api.Quote]", "slices.overlaps[consols/api.Due]", "math/bits.Add64", "slices.overlaps[consols/api.Ask]"], unfollowed := true, recurses := true, apart := false, narrowed := true }
def TopCutUptoSaid : Prop := topCutUptoRow.holds Tryz.pinned (OpenSpec.upto topCutSpec)

/-- 'consolstop.TopStaff', WHERE WHAT IT READS IS OF BULK AT MOST 1048576: true; the input reads as it did. -/
def topStaffUptoRow : OpenClaim := { program := "ytkmniidiifpdgaagreat", sum := "56917532921c25abf280e56098d4ede3eaf7292a9416da38c05e7f72669efdda", func := "consols/consolstop.TopStaff", spec := "topStaff", inPlace := ["slices.overlaps[consols/api.Quote]", "slices.overlaps[consols/api.Due]", "math/bits.Add64", "slices.overlaps[consols/api.Ask]"], unfollowed := true, recurses := true, apart := false, narrowed := true }
def TopStaffUptoSaid : Prop := topStaffUptoRow.holds Tryz.pinned (OpenSpec.upto topStaffSpec)

end Rows
end Go.Proofs.YtkmniidiifpdgaaGreat
