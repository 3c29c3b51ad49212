/-
  No cell of these rows narrows 'for every input' (looked for: loops, veiled, ifaces, maps, wideKeys, modest, calm, conditions, laid).
  DERIVED. THE GIVEN ROWS OF THIS SEAT. 10 by the template 'for every input the law returns true; each argument reads behind the call as it read before'; 0 by the template 'total and deterministic' (their statements: YtkbdhffgmahpdaaTotals.lean).
  GIVEN WITH THE SEED: the statements are not yours to turn. If you find one false, say at which input.
  Laid BY PROGRAM, IN A SANDBOX (cutbox-rows.mjs): the forced cells as the released guide's own fill.sh prints them over the translation 1db0ee06779e0d87… (all of the seat's roots in one cut). By AI agents, Wed Nov 11 2026. No macro, syntax, notation, axiom, sorry.
-/
import Derived.Test.YtkbdhffgmahpdaaChecked
import GoSem.Claim
import GoSem.ClaimJoined
import GoSem.ClaimMapViews
import Derived.JoinedTies
import Derived.KernelRfl
namespace Go.Proofs.Ytkbdhffgmahpdaa
/- THE CELL 'sum', in the pinned program and in every row, IS THE sha256 OF THE DUMP (.gsa) THAT YtkbdhffgmahpdaaProg.lean LOADS. Nothing in Lean hashes anything: it is a label: what it is worth is what the hold of that sum in a sandbox is worth. -/
noncomputable def Try.pinned : Pinned := { name := "ytkbdhffgmahpdaa", sum := "1db0ee06779e0d87cc4784c6c43bab94d3ee481ff8ddac0efcc5e093846febf1", checked := Try.checked }
namespace Rows
def none {H : Type} : Left H := { results := [], args := [] }

/-- 'laws.FnExactCallsFor': WHATEVER THE INPUT: true; the input reads as it did. -/
def fnExactCallsForSpec : ChangeSpec := { name := "fnExactCallsFor", fn := fun _ => fun
  | [d] => { results := [.lit (.bool true)], args := [d] }
  | _ => none }
def fnExactCallsForRow : OpenClaim := { program := "ytkbdhffgmahpdaa", sum := "1db0ee06779e0d87cc4784c6c43bab94d3ee481ff8ddac0efcc5e093846febf1", func := "loop.example/g00499/laws.FnExactCallsFor", spec := "fnExactCallsFor", recurses := true, apart := false }
def FnExactCallsForSaid : Prop := fnExactCallsForRow.holds Try.pinned (OpenSpec.ofChange fnExactCallsForSpec)

/-- ITS FALSE NEIGHBOUR: 'it returns false'. Refute it at one input. -/
def fnExactCallsForWrong : ChangeSpec := { name := "fnExactCallsFor", fn := fun _ => fun
  | [d] => { results := [.lit (.bool false)], args := [d] }
  | _ => none }
def FnExactCallsForWrongFalsely : Prop := fnExactCallsForRow.holds Try.pinned (OpenSpec.ofChange fnExactCallsForWrong)

/-- 'laws.FnExactBoundFor': WHATEVER THE INPUT: true; the input reads as it did. -/
def fnExactBoundForSpec : ChangeSpec := { name := "fnExactBoundFor", fn := fun _ => fun
  | [d] => { results := [.lit (.bool true)], args := [d] }
  | _ => none }
def fnExactBoundForRow : OpenClaim := { program := "ytkbdhffgmahpdaa", sum := "1db0ee06779e0d87cc4784c6c43bab94d3ee481ff8ddac0efcc5e093846febf1", func := "loop.example/g00499/laws.FnExactBoundFor", spec := "fnExactBoundFor", recurses := true, apart := false }
def FnExactBoundForSaid : Prop := fnExactBoundForRow.holds Try.pinned (OpenSpec.ofChange fnExactBoundForSpec)

/-- ITS FALSE NEIGHBOUR: 'it returns false'. Refute it at one input. -/
def fnExactBoundForWrong : ChangeSpec := { name := "fnExactBoundFor", fn := fun _ => fun
  | [d] => { results := [.lit (.bool false)], args := [d] }
  | _ => none }
def FnExactBoundForWrongFalsely : Prop := fnExactBoundForRow.holds Try.pinned (OpenSpec.ofChange fnExactBoundForWrong)

/-- 'laws.FnExactEagerTag': WHATEVER THE INPUT: true; the input reads as it did. -/
def fnExactEagerTagSpec : ChangeSpec := { name := "fnExactEagerTag", fn := fun _ => fun
  | [d1, d2, d3] => { results := [.lit (.bool true)], args := [d1, d2, d3] }
  | _ => none }
def fnExactEagerTagRow : OpenClaim := { program := "ytkbdhffgmahpdaa", sum := "1db0ee06779e0d87cc4784c6c43bab94d3ee481ff8ddac0efcc5e093846febf1", func := "loop.example/g00499/laws.FnExactEagerTag", spec := "fnExactEagerTag", unfollowed := true, recurses := true, apart := false }
def FnExactEagerTagSaid : Prop := fnExactEagerTagRow.holds Try.pinned (OpenSpec.ofChange fnExactEagerTagSpec)

/-- ITS FALSE NEIGHBOUR: 'it returns false'. Refute it at one input. -/
def fnExactEagerTagWrong : ChangeSpec := { name := "fnExactEagerTag", fn := fun _ => fun
  | [d1, d2, d3] => { results := [.lit (.bool false)], args := [d1, d2, d3] }
  | _ => none }
def FnExactEagerTagWrongFalsely : Prop := fnExactEagerTagRow.holds Try.pinned (OpenSpec.ofChange fnExactEagerTagWrong)

/-- 'laws.FnExactEagerWrite': WHATEVER THE INPUT: true; the input reads as it did. -/
def fnExactEagerWriteSpec : ChangeSpec := { name := "fnExactEagerWrite", fn := fun _ => fun
  | [d1, d2, d3, d4] => { results := [.lit (.bool true)], args := [d1, d2, d3, d4] }
  | _ => none }
def fnExactEagerWriteRow : OpenClaim := { program := "ytkbdhffgmahpdaa", sum := "1db0ee06779e0d87cc4784c6c43bab94d3ee481ff8ddac0efcc5e093846febf1", func := "loop.example/g00499/laws.FnExactEagerWrite", spec := "fnExactEagerWrite", unfollowed := true, recurses := true, apart := false }
def FnExactEagerWriteSaid : Prop := fnExactEagerWriteRow.holds Try.pinned (OpenSpec.ofChange fnExactEagerWriteSpec)

/-- ITS FALSE NEIGHBOUR: 'it returns false'. Refute it at one input. -/
def fnExactEagerWriteWrong : ChangeSpec := { name := "fnExactEagerWrite", fn := fun _ => fun
  | [d1, d2, d3, d4] => { results := [.lit (.bool false)], args := [d1, d2, d3, d4] }
  | _ => none }
def FnExactEagerWriteWrongFalsely : Prop := fnExactEagerWriteRow.holds Try.pinned (OpenSpec.ofChange fnExactEagerWriteWrong)

/-- 'laws.FnExactEagerGive': WHATEVER THE INPUT: true; the input reads as it did. -/
def fnExactEagerGiveSpec : ChangeSpec := { name := "fnExactEagerGive", fn := fun _ => fun
  | [d1, d2, d3] => { results := [.lit (.bool true)], args := [d1, d2, d3] }
  | _ => none }
def fnExactEagerGiveRow : OpenClaim := { program := "ytkbdhffgmahpdaa", sum := "1db0ee06779e0d87cc4784c6c43bab94d3ee481ff8ddac0efcc5e093846febf1", func := "loop.example/g00499/laws.FnExactEagerGive", spec := "fnExactEagerGive", unfollowed := true, recurses := true, apart := false }
def FnExactEagerGiveSaid : Prop := fnExactEagerGiveRow.holds Try.pinned (OpenSpec.ofChange fnExactEagerGiveSpec)

/-- ITS FALSE NEIGHBOUR: 'it returns false'. Refute it at one input. -/
def fnExactEagerGiveWrong : ChangeSpec := { name := "fnExactEagerGive", fn := fun _ => fun
  | [d1, d2, d3] => { results := [.lit (.bool false)], args := [d1, d2, d3] }
  | _ => none }
def FnExactEagerGiveWrongFalsely : Prop := fnExactEagerGiveRow.holds Try.pinned (OpenSpec.ofChange fnExactEagerGiveWrong)

/-- 'laws.FnExactEagerAlloc': WHATEVER THE INPUT: true; the input reads as it did. -/
def fnExactEagerAllocSpec : ChangeSpec := { name := "fnExactEagerAlloc", fn := fun _ => fun
  | [d1, d2, d3, d4, d5] => { results := [.lit (.bool true)], args := [d1, d2, d3, d4, d5] }
  | _ => none }
def fnExactEagerAllocRow : OpenClaim := { program := "ytkbdhffgmahpdaa", sum := "1db0ee06779e0d87cc4784c6c43bab94d3ee481ff8ddac0efcc5e093846febf1", func := "loop.example/g00499/laws.FnExactEagerAlloc", spec := "fnExactEagerAlloc", unfollowed := true, recurses := true, apart := false }
def FnExactEagerAllocSaid : Prop := fnExactEagerAllocRow.holds Try.pinned (OpenSpec.ofChange fnExactEagerAllocSpec)

/-- ITS FALSE NEIGHBOUR: 'it returns false'. Refute it at one input. -/
def fnExactEagerAllocWrong : ChangeSpec := { name := "fnExactEagerAlloc", fn := fun _ => fun
  | [d1, d2, d3, d4, d5] => { results := [.lit (.bool false)], args := [d1, d2, d3, d4, d5] }
  | _ => none }
def FnExactEagerAllocWrongFalsely : Prop := fnExactEagerAllocRow.holds Try.pinned (OpenSpec.ofChange fnExactEagerAllocWrong)

/-- 'laws.FnExactBytesSeen': WHATEVER THE INPUT: true; the input reads as it did. -/
def fnExactBytesSeenSpec : ChangeSpec := { name := "fnExactBytesSeen", fn := fun _ => fun
  | [d1, d2] => { results := [.lit (.bool true)], args := [d1, d2] }
  | _ => none }
def fnExactBytesSeenRow : OpenClaim := { program := "ytkbdhffgmahpdaa", sum := "1db0ee06779e0d87cc4784c6c43bab94d3ee481ff8ddac0efcc5e093846febf1", func := "loop.example/g00499/laws.FnExactBytesSeen", spec := "fnExactBytesSeen", apart := false }
def FnExactBytesSeenSaid : Prop := fnExactBytesSeenRow.holds Try.pinned (OpenSpec.ofChange fnExactBytesSeenSpec)

/-- ITS FALSE NEIGHBOUR: 'it returns false'. Refute it at one input. -/
def fnExactBytesSeenWrong : ChangeSpec := { name := "fnExactBytesSeen", fn := fun _ => fun
  | [d1, d2] => { results := [.lit (.bool false)], args := [d1, d2] }
  | _ => none }
def FnExactBytesSeenWrongFalsely : Prop := fnExactBytesSeenRow.holds Try.pinned (OpenSpec.ofChange fnExactBytesSeenWrong)

/-- 'laws.FnExactRoomSeen': WHATEVER THE INPUT: true; the input reads as it did. -/
def fnExactRoomSeenSpec : ChangeSpec := { name := "fnExactRoomSeen", fn := fun _ => fun
  | [d1, d2] => { results := [.lit (.bool true)], args := [d1, d2] }
  | _ => none }
def fnExactRoomSeenRow : OpenClaim := { program := "ytkbdhffgmahpdaa", sum := "1db0ee06779e0d87cc4784c6c43bab94d3ee481ff8ddac0efcc5e093846febf1", func := "loop.example/g00499/laws.FnExactRoomSeen", spec := "fnExactRoomSeen", apart := false }
def FnExactRoomSeenSaid : Prop := fnExactRoomSeenRow.holds Try.pinned (OpenSpec.ofChange fnExactRoomSeenSpec)

/-- ITS FALSE NEIGHBOUR: 'it returns false'. Refute it at one input. -/
def fnExactRoomSeenWrong : ChangeSpec := { name := "fnExactRoomSeen", fn := fun _ => fun
  | [d1, d2] => { results := [.lit (.bool false)], args := [d1, d2] }
  | _ => none }
def FnExactRoomSeenWrongFalsely : Prop := fnExactRoomSeenRow.holds Try.pinned (OpenSpec.ofChange fnExactRoomSeenWrong)

/-- 'laws.FnExactEagerMake': WHATEVER THE INPUT: true; the input reads as it did. -/
def fnExactEagerMakeSpec : ChangeSpec := { name := "fnExactEagerMake", fn := fun _ => fun
  | [d1, d2, d3, d4] => { results := [.lit (.bool true)], args := [d1, d2, d3, d4] }
  | _ => none }
def fnExactEagerMakeRow : OpenClaim := { program := "ytkbdhffgmahpdaa", sum := "1db0ee06779e0d87cc4784c6c43bab94d3ee481ff8ddac0efcc5e093846febf1", func := "loop.example/g00499/laws.FnExactEagerMake", spec := "fnExactEagerMake", inPlace := ["slices.overlaps[loop.example/g00499/impl.Handle]", "slices.overlaps[loop.example/g00499/impl.Room]"], unfollowed := true, recurses := true, apart := false }
def FnExactEagerMakeSaid : Prop := fnExactEagerMakeRow.holds Try.pinned (OpenSpec.ofChange fnExactEagerMakeSpec)

/-- ITS FALSE NEIGHBOUR: 'it returns false'. Refute it at one input. -/
def fnExactEagerMakeWrong : ChangeSpec := { name := "fnExactEagerMake", fn := fun _ => fun
  | [d1, d2, d3, d4] => { results := [.lit (.bool false)], args := [d1, d2, d3, d4] }
  | _ => none }
def FnExactEagerMakeWrongFalsely : Prop := fnExactEagerMakeRow.holds Try.pinned (OpenSpec.ofChange fnExactEagerMakeWrong)

/-- 'laws.FnExactSeenAt': WHATEVER THE INPUT: true; the input reads as it did. -/
def fnExactSeenAtSpec : ChangeSpec := { name := "fnExactSeenAt", fn := fun _ => fun
  | [d1, d2] => { results := [.lit (.bool true)], args := [d1, d2] }
  | _ => none }
def fnExactSeenAtRow : OpenClaim := { program := "ytkbdhffgmahpdaa", sum := "1db0ee06779e0d87cc4784c6c43bab94d3ee481ff8ddac0efcc5e093846febf1", func := "loop.example/g00499/laws.FnExactSeenAt", spec := "fnExactSeenAt", apart := false }
def FnExactSeenAtSaid : Prop := fnExactSeenAtRow.holds Try.pinned (OpenSpec.ofChange fnExactSeenAtSpec)

/-- ITS FALSE NEIGHBOUR: 'it returns false'. Refute it at one input. -/
def fnExactSeenAtWrong : ChangeSpec := { name := "fnExactSeenAt", fn := fun _ => fun
  | [d1, d2] => { results := [.lit (.bool false)], args := [d1, d2] }
  | _ => none }
def FnExactSeenAtWrongFalsely : Prop := fnExactSeenAtRow.holds Try.pinned (OpenSpec.ofChange fnExactSeenAtWrong)

/- THE SECOND FORM. 'bulk': how many values and letters a reading holds, each counted each time it is reached (what is shared counts as often as it is met; a slice's spare places count too). A statement '..UptoSaid' is the law's where the arguments, and the package variables that the reading takes, are together of bulk at most 1048576: NARROWER than '..Said'. Prove '..Said' where nothing that the law and all that it calls make is longer than what came in: it says more and counts as full. Else prove '..UptoSaid'. A law counts once. -/
mutual
def uptoBulk {H : Type} : DataW H → Nat
  | .lit (.string bytes) => bytes.length + 1
  | .lit _ => 1
  | .nil => 1
  | .ptr d => uptoBulk d + 1
  | .slice elems spare => uptoBulkAll elems + uptoBulkAll spare + 1
  | .agg parts => uptoBulkAll parts + 1
  | .iface _ d => uptoBulk d + 1
  | .map entries => uptoBulkEntries entries + 1
  | .held _ => 1
def uptoBulkAll {H : Type} : List (DataW H) → Nat
  | [] => 0
  | d :: r => uptoBulk d + uptoBulkAll r
def uptoBulkEntries {H : Type} : List (Lit × DataW H) → Nat
  | [] => 0
  | x :: r => uptoBulkEntry x + uptoBulkEntries r
def uptoBulkEntry {H : Type} : Lit × DataW H → Nat
  | (.string bytes, d) => bytes.length + uptoBulk d + 1
  | (_, d) => uptoBulk d + 1
 end
def uptoSmall : (H : Type) → List (DataW H) → Bool := fun _ ds => decide (uptoBulkAll ds ≤ 1048576)
def OpenSpec.upto (s : _root_.Go.ChangeSpec) : _root_.Go.OpenSpec := { _root_.Go.OpenSpec.ofChange s with cond := some uptoSmall }

/-- 'laws.FnExactCallsFor', WHERE WHAT IT READS IS OF BULK AT MOST 1048576: true; the input reads as it did. -/
def fnExactCallsForUptoRow : OpenClaim := { program := "ytkbdhffgmahpdaa", sum := "1db0ee06779e0d87cc4784c6c43bab94d3ee481ff8ddac0efcc5e093846febf1", func := "loop.example/g00499/laws.FnExactCallsFor", spec := "fnExactCallsFor", recurses := true, apart := false, narrowed := true }
def FnExactCallsForUptoSaid : Prop := fnExactCallsForUptoRow.holds Try.pinned (OpenSpec.upto fnExactCallsForSpec)

/-- 'laws.FnExactBoundFor', WHERE WHAT IT READS IS OF BULK AT MOST 1048576: true; the input reads as it did. -/
def fnExactBoundForUptoRow : OpenClaim := { program := "ytkbdhffgmahpdaa", sum := "1db0ee06779e0d87cc4784c6c43bab94d3ee481ff8ddac0efcc5e093846febf1", func := "loop.example/g00499/laws.FnExactBoundFor", spec := "fnExactBoundFor", recurses := true, apart := false, narrowed := true }
def FnExactBoundForUptoSaid : Prop := fnExactBoundForUptoRow.holds Try.pinned (OpenSpec.upto fnExactBoundForSpec)

/-- 'laws.FnExactEagerTag', WHERE WHAT IT READS IS OF BULK AT MOST 1048576: true; the input reads as it did. -/
def fnExactEagerTagUptoRow : OpenClaim := { program := "ytkbdhffgmahpdaa", sum := "1db0ee06779e0d87cc4784c6c43bab94d3ee481ff8ddac0efcc5e093846febf1", func := "loop.example/g00499/laws.FnExactEagerTag", spec := "fnExactEagerTag", unfollowed := true, recurses := true, apart := false, narrowed := true }
def FnExactEagerTagUptoSaid : Prop := fnExactEagerTagUptoRow.holds Try.pinned (OpenSpec.upto fnExactEagerTagSpec)

/-- 'laws.FnExactEagerWrite', WHERE WHAT IT READS IS OF BULK AT MOST 1048576: true; the input reads as it did. -/
def fnExactEagerWriteUptoRow : OpenClaim := { program := "ytkbdhffgmahpdaa", sum := "1db0ee06779e0d87cc4784c6c43bab94d3ee481ff8ddac0efcc5e093846febf1", func := "loop.example/g00499/laws.FnExactEagerWrite", spec := "fnExactEagerWrite", unfollowed := true, recurses := true, apart := false, narrowed := true }
def FnExactEagerWriteUptoSaid : Prop := fnExactEagerWriteUptoRow.holds Try.pinned (OpenSpec.upto fnExactEagerWriteSpec)

/-- 'laws.FnExactEagerGive', WHERE WHAT IT READS IS OF BULK AT MOST 1048576: true; the input reads as it did. -/
def fnExactEagerGiveUptoRow : OpenClaim := { program := "ytkbdhffgmahpdaa", sum := "1db0ee06779e0d87cc4784c6c43bab94d3ee481ff8ddac0efcc5e093846febf1", func := "loop.example/g00499/laws.FnExactEagerGive", spec := "fnExactEagerGive", unfollowed := true, recurses := true, apart := false, narrowed := true }
def FnExactEagerGiveUptoSaid : Prop := fnExactEagerGiveUptoRow.holds Try.pinned (OpenSpec.upto fnExactEagerGiveSpec)

/-- 'laws.FnExactEagerAlloc', WHERE WHAT IT READS IS OF BULK AT MOST 1048576: true; the input reads as it did. -/
def fnExactEagerAllocUptoRow : OpenClaim := { program := "ytkbdhffgmahpdaa", sum := "1db0ee06779e0d87cc4784c6c43bab94d3ee481ff8ddac0efcc5e093846febf1", func := "loop.example/g00499/laws.FnExactEagerAlloc", spec := "fnExactEagerAlloc", unfollowed := true, recurses := true, apart := false, narrowed := true }
def FnExactEagerAllocUptoSaid : Prop := fnExactEagerAllocUptoRow.holds Try.pinned (OpenSpec.upto fnExactEagerAllocSpec)

/-- 'laws.FnExactBytesSeen', WHERE WHAT IT READS IS OF BULK AT MOST 1048576: true; the input reads as it did. -/
def fnExactBytesSeenUptoRow : OpenClaim := { program := "ytkbdhffgmahpdaa", sum := "1db0ee06779e0d87cc4784c6c43bab94d3ee481ff8ddac0efcc5e093846febf1", func := "loop.example/g00499/laws.FnExactBytesSeen", spec := "fnExactBytesSeen", apart := false, narrowed := true }
def FnExactBytesSeenUptoSaid : Prop := fnExactBytesSeenUptoRow.holds Try.pinned (OpenSpec.upto fnExactBytesSeenSpec)

/-- 'laws.FnExactRoomSeen', WHERE WHAT IT READS IS OF BULK AT MOST 1048576: true; the input reads as it did. -/
def fnExactRoomSeenUptoRow : OpenClaim := { program := "ytkbdhffgmahpdaa", sum := "1db0ee06779e0d87cc4784c6c43bab94d3ee481ff8ddac0efcc5e093846febf1", func := "loop.example/g00499/laws.FnExactRoomSeen", spec := "fnExactRoomSeen", apart := false, narrowed := true }
def FnExactRoomSeenUptoSaid : Prop := fnExactRoomSeenUptoRow.holds Try.pinned (OpenSpec.upto fnExactRoomSeenSpec)

/-- 'laws.FnExactEagerMake', WHERE WHAT IT READS IS OF BULK AT MOST 1048576: true; the input reads as it did. -/
def fnExactEagerMakeUptoRow : OpenClaim := { program := "ytkbdhffgmahpdaa", sum := "1db0ee06779e0d87cc4784c6c43bab94d3ee481ff8ddac0efcc5e093846febf1", func := "loop.example/g00499/laws.FnExactEagerMake", spec := "fnExactEagerMake", inPlace := ["slices.overlaps[loop.example/g00499/impl.Handle]", "slices.overlaps[loop.example/g00499/impl.Room]"], unfollowed := true, recurses := true, apart := false, narrowed := true }
def FnExactEagerMakeUptoSaid : Prop := fnExactEagerMakeUptoRow.holds Try.pinned (OpenSpec.upto fnExactEagerMakeSpec)

/-- 'laws.FnExactSeenAt', WHERE WHAT IT READS IS OF BULK AT MOST 1048576: true; the input reads as it did. -/
def fnExactSeenAtUptoRow : OpenClaim := { program := "ytkbdhffgmahpdaa", sum := "1db0ee06779e0d87cc4784c6c43bab94d3ee481ff8ddac0efcc5e093846febf1", func := "loop.example/g00499/laws.FnExactSeenAt", spec := "fnExactSeenAt", apart := false, narrowed := true }
def FnExactSeenAtUptoSaid : Prop := fnExactSeenAtUptoRow.holds Try.pinned (OpenSpec.upto fnExactSeenAtSpec)

end Rows
end Go.Proofs.Ytkbdhffgmahpdaa
