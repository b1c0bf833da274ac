/-
  No cell of these rows narrows 'for every input' (looked for: loops, veiled, ifaces, maps, wideKeys, modest, calm, conditions, laid).
  DERIVED. THE GIVEN ROWS OF THIS SEAT. 12 by the template 'for every input the law returns true; each argument reads behind the call as it read before'; 0 by the template 'total and deterministic' (their statements: YtklibbmlkjlbiaaTotals.lean).
  GIVEN WITH THE SEED: the statements are not yours to turn. If you find one false, say at which input.
  Laid BY PROGRAM, IN A SANDBOX (cutbox-rows.mjs): the forced cells as the released guide's own fill.sh prints them over the translation f8da74c0cc3c1b4a… (all of the seat's roots in one cut). By AI agents, Wed Nov 11 2026. No macro, syntax, notation, axiom, sorry.
-/
import Derived.Test.YtklibbmlkjlbiaaChecked
import GoSem.Claim
import GoSem.ClaimJoined
import GoSem.ClaimMapViews
import Derived.JoinedTies
import Derived.KernelRfl
namespace Go.Proofs.Ytklibbmlkjlbiaa
/- THE CELL 'sum', in the pinned program and in every row, IS THE sha256 OF THE DUMP (.gsa) THAT YtklibbmlkjlbiaaProg.lean LOADS. Nothing in Lean hashes anything: it is a label: what it is worth is what the hold of that sum in a sandbox is worth. -/
noncomputable def Try.pinned : Pinned := { name := "ytklibbmlkjlbiaa", sum := "f8da74c0cc3c1b4a9525df4e188d5495a1a689b87333fb3fb9c1721c4339f22a", checked := Try.checked }
namespace Rows
def none {H : Type} : Left H := { results := [], args := [] }

/-- 'backwaterlaw01.BitsZigs': WHATEVER THE INPUT: true; the input reads as it did. -/
def bitsZigsSpec : ChangeSpec := { name := "bitsZigs", fn := fun _ => fun
  | [d1, d2] => { results := [.lit (.bool true)], args := [d1, d2] }
  | _ => none }
def bitsZigsRow : OpenClaim := { program := "ytklibbmlkjlbiaa", sum := "f8da74c0cc3c1b4a9525df4e188d5495a1a689b87333fb3fb9c1721c4339f22a", func := "backwater/backwaterlaw01.BitsZigs", spec := "bitsZigs", apart := false }
def BitsZigsSaid : Prop := bitsZigsRow.holds Try.pinned (OpenSpec.ofChange bitsZigsSpec)

/-- ITS FALSE NEIGHBOUR: 'it returns false'. Refute it at one input. -/
def bitsZigsWrong : ChangeSpec := { name := "bitsZigs", fn := fun _ => fun
  | [d1, d2] => { results := [.lit (.bool false)], args := [d1, d2] }
  | _ => none }
def BitsZigsWrongFalsely : Prop := bitsZigsRow.holds Try.pinned (OpenSpec.ofChange bitsZigsWrong)

/-- 'backwaterlaw01.BitsFolds': WHATEVER THE INPUT: true; the input reads as it did. -/
def bitsFoldsSpec : ChangeSpec := { name := "bitsFolds", fn := fun _ => fun
  | [d] => { results := [.lit (.bool true)], args := [d] }
  | _ => none }
def bitsFoldsRow : OpenClaim := { program := "ytklibbmlkjlbiaa", sum := "f8da74c0cc3c1b4a9525df4e188d5495a1a689b87333fb3fb9c1721c4339f22a", func := "backwater/backwaterlaw01.BitsFolds", spec := "bitsFolds", apart := false }
def BitsFoldsSaid : Prop := bitsFoldsRow.holds Try.pinned (OpenSpec.ofChange bitsFoldsSpec)

/-- ITS FALSE NEIGHBOUR: 'it returns false'. Refute it at one input. -/
def bitsFoldsWrong : ChangeSpec := { name := "bitsFolds", fn := fun _ => fun
  | [d] => { results := [.lit (.bool false)], args := [d] }
  | _ => none }
def BitsFoldsWrongFalsely : Prop := bitsFoldsRow.holds Try.pinned (OpenSpec.ofChange bitsFoldsWrong)

/-- 'backwaterlaw01.BitsSmall': WHATEVER THE INPUT: true; the input reads as it did. -/
def bitsSmallSpec : ChangeSpec := { name := "bitsSmall", fn := fun _ => fun
  | [d1, d2] => { results := [.lit (.bool true)], args := [d1, d2] }
  | _ => none }
def bitsSmallRow : OpenClaim := { program := "ytklibbmlkjlbiaa", sum := "f8da74c0cc3c1b4a9525df4e188d5495a1a689b87333fb3fb9c1721c4339f22a", func := "backwater/backwaterlaw01.BitsSmall", spec := "bitsSmall", apart := false }
def BitsSmallSaid : Prop := bitsSmallRow.holds Try.pinned (OpenSpec.ofChange bitsSmallSpec)

/-- ITS FALSE NEIGHBOUR: 'it returns false'. Refute it at one input. -/
def bitsSmallWrong : ChangeSpec := { name := "bitsSmall", fn := fun _ => fun
  | [d1, d2] => { results := [.lit (.bool false)], args := [d1, d2] }
  | _ => none }
def BitsSmallWrongFalsely : Prop := bitsSmallRow.holds Try.pinned (OpenSpec.ofChange bitsSmallWrong)

/-- 'backwaterlaw01.BitsFids': WHATEVER THE INPUT: true; the input reads as it did. -/
def bitsFidsSpec : ChangeSpec := { name := "bitsFids", fn := fun _ => fun
  | [d1, d2, d3] => { results := [.lit (.bool true)], args := [d1, d2, d3] }
  | _ => none }
def bitsFidsRow : OpenClaim := { program := "ytklibbmlkjlbiaa", sum := "f8da74c0cc3c1b4a9525df4e188d5495a1a689b87333fb3fb9c1721c4339f22a", func := "backwater/backwaterlaw01.BitsFids", spec := "bitsFids", apart := false }
def BitsFidsSaid : Prop := bitsFidsRow.holds Try.pinned (OpenSpec.ofChange bitsFidsSpec)

/-- ITS FALSE NEIGHBOUR: 'it returns false'. Refute it at one input. -/
def bitsFidsWrong : ChangeSpec := { name := "bitsFids", fn := fun _ => fun
  | [d1, d2, d3] => { results := [.lit (.bool false)], args := [d1, d2, d3] }
  | _ => none }
def BitsFidsWrongFalsely : Prop := bitsFidsRow.holds Try.pinned (OpenSpec.ofChange bitsFidsWrong)

/-- 'backwatertop.TopFids': WHATEVER THE INPUT: true; the input reads as it did. -/
def topFidsSpec : ChangeSpec := { name := "topFids", fn := fun _ => fun
  | [d1, d2, d3] => { results := [.lit (.bool true)], args := [d1, d2, d3] }
  | _ => none }
def topFidsRow : OpenClaim := { program := "ytklibbmlkjlbiaa", sum := "f8da74c0cc3c1b4a9525df4e188d5495a1a689b87333fb3fb9c1721c4339f22a", func := "backwater/backwatertop.TopFids", spec := "topFids", apart := false }
def TopFidsSaid : Prop := topFidsRow.holds Try.pinned (OpenSpec.ofChange topFidsSpec)

/-- ITS FALSE NEIGHBOUR: 'it returns false'. Refute it at one input. -/
def topFidsWrong : ChangeSpec := { name := "topFids", fn := fun _ => fun
  | [d1, d2, d3] => { results := [.lit (.bool false)], args := [d1, d2, d3] }
  | _ => none }
def TopFidsWrongFalsely : Prop := topFidsRow.holds Try.pinned (OpenSpec.ofChange topFidsWrong)

/-- 'backwaterlaw01.BitsMade': WHATEVER THE INPUT: true; the input reads as it did. -/
def bitsMadeSpec : ChangeSpec := { name := "bitsMade", fn := fun _ => fun
  | [d1, d2] => { results := [.lit (.bool true)], args := [d1, d2] }
  | _ => none }
def bitsMadeRow : OpenClaim := { program := "ytklibbmlkjlbiaa", sum := "f8da74c0cc3c1b4a9525df4e188d5495a1a689b87333fb3fb9c1721c4339f22a", func := "backwater/backwaterlaw01.BitsMade", spec := "bitsMade", apart := false }
def BitsMadeSaid : Prop := bitsMadeRow.holds Try.pinned (OpenSpec.ofChange bitsMadeSpec)

/-- ITS FALSE NEIGHBOUR: 'it returns false'. Refute it at one input. -/
def bitsMadeWrong : ChangeSpec := { name := "bitsMade", fn := fun _ => fun
  | [d1, d2] => { results := [.lit (.bool false)], args := [d1, d2] }
  | _ => none }
def BitsMadeWrongFalsely : Prop := bitsMadeRow.holds Try.pinned (OpenSpec.ofChange bitsMadeWrong)

/-- 'backwatertop.TopRow': WHATEVER THE INPUT: true; the input reads as it did. -/
def topRowSpec : ChangeSpec := { name := "topRow", fn := fun _ => fun
  | [d] => { results := [.lit (.bool true)], args := [d] }
  | _ => none }
def topRowRow : OpenClaim := { program := "ytklibbmlkjlbiaa", sum := "f8da74c0cc3c1b4a9525df4e188d5495a1a689b87333fb3fb9c1721c4339f22a", func := "backwater/backwatertop.TopRow", spec := "topRow", unfollowed := true, recurses := true, apart := false }
def TopRowSaid : Prop := topRowRow.holds Try.pinned (OpenSpec.ofChange topRowSpec)

/-- ITS FALSE NEIGHBOUR: 'it returns false'. Refute it at one input. -/
def topRowWrong : ChangeSpec := { name := "topRow", fn := fun _ => fun
  | [d] => { results := [.lit (.bool false)], args := [d] }
  | _ => none }
def TopRowWrongFalsely : Prop := topRowRow.holds Try.pinned (OpenSpec.ofChange topRowWrong)

/-- 'backwaterlaw01.BitsRound': WHATEVER THE INPUT: true; the input reads as it did. -/
def bitsRoundSpec : ChangeSpec := { name := "bitsRound", fn := fun _ => fun
  | [d1, d2] => { results := [.lit (.bool true)], args := [d1, d2] }
  | _ => none }
def bitsRoundRow : OpenClaim := { program := "ytklibbmlkjlbiaa", sum := "f8da74c0cc3c1b4a9525df4e188d5495a1a689b87333fb3fb9c1721c4339f22a", func := "backwater/backwaterlaw01.BitsRound", spec := "bitsRound", apart := false }
def BitsRoundSaid : Prop := bitsRoundRow.holds Try.pinned (OpenSpec.ofChange bitsRoundSpec)

/-- ITS FALSE NEIGHBOUR: 'it returns false'. Refute it at one input. -/
def bitsRoundWrong : ChangeSpec := { name := "bitsRound", fn := fun _ => fun
  | [d1, d2] => { results := [.lit (.bool false)], args := [d1, d2] }
  | _ => none }
def BitsRoundWrongFalsely : Prop := bitsRoundRow.holds Try.pinned (OpenSpec.ofChange bitsRoundWrong)

/-- 'backwatertop.TopCalled': WHATEVER THE INPUT: true; the input reads as it did. -/
def topCalledSpec : ChangeSpec := { name := "topCalled", fn := fun _ => fun
  | [d1, d2] => { results := [.lit (.bool true)], args := [d1, d2] }
  | _ => none }
def topCalledRow : OpenClaim := { program := "ytklibbmlkjlbiaa", sum := "f8da74c0cc3c1b4a9525df4e188d5495a1a689b87333fb3fb9c1721c4339f22a", func := "backwater/backwatertop.TopCalled", spec := "topCalled", apart := false }
def TopCalledSaid : Prop := topCalledRow.holds Try.pinned (OpenSpec.ofChange topCalledSpec)

/-- ITS FALSE NEIGHBOUR: 'it returns false'. Refute it at one input. -/
def topCalledWrong : ChangeSpec := { name := "topCalled", fn := fun _ => fun
  | [d1, d2] => { results := [.lit (.bool false)], args := [d1, d2] }
  | _ => none }
def TopCalledWrongFalsely : Prop := topCalledRow.holds Try.pinned (OpenSpec.ofChange topCalledWrong)

/-- 'backwaterlaw01.BitsPacks': WHATEVER THE INPUT: true; the input reads as it did. -/
def bitsPacksSpec : ChangeSpec := { name := "bitsPacks", fn := fun _ => fun
  | [d1, d2, d3] => { results := [.lit (.bool true)], args := [d1, d2, d3] }
  | _ => none }
def bitsPacksRow : OpenClaim := { program := "ytklibbmlkjlbiaa", sum := "f8da74c0cc3c1b4a9525df4e188d5495a1a689b87333fb3fb9c1721c4339f22a", func := "backwater/backwaterlaw01.BitsPacks", spec := "bitsPacks", apart := false }
def BitsPacksSaid : Prop := bitsPacksRow.holds Try.pinned (OpenSpec.ofChange bitsPacksSpec)

/-- ITS FALSE NEIGHBOUR: 'it returns false'. Refute it at one input. -/
def bitsPacksWrong : ChangeSpec := { name := "bitsPacks", fn := fun _ => fun
  | [d1, d2, d3] => { results := [.lit (.bool false)], args := [d1, d2, d3] }
  | _ => none }
def BitsPacksWrongFalsely : Prop := bitsPacksRow.holds Try.pinned (OpenSpec.ofChange bitsPacksWrong)

/-- 'backwaterlaw01.BitsNarrows': WHATEVER THE INPUT: true; the input reads as it did. -/
def bitsNarrowsSpec : ChangeSpec := { name := "bitsNarrows", fn := fun _ => fun
  | [d] => { results := [.lit (.bool true)], args := [d] }
  | _ => none }
def bitsNarrowsRow : OpenClaim := { program := "ytklibbmlkjlbiaa", sum := "f8da74c0cc3c1b4a9525df4e188d5495a1a689b87333fb3fb9c1721c4339f22a", func := "backwater/backwaterlaw01.BitsNarrows", spec := "bitsNarrows", apart := false }
def BitsNarrowsSaid : Prop := bitsNarrowsRow.holds Try.pinned (OpenSpec.ofChange bitsNarrowsSpec)

/-- ITS FALSE NEIGHBOUR: 'it returns false'. Refute it at one input. -/
def bitsNarrowsWrong : ChangeSpec := { name := "bitsNarrows", fn := fun _ => fun
  | [d] => { results := [.lit (.bool false)], args := [d] }
  | _ => none }
def BitsNarrowsWrongFalsely : Prop := bitsNarrowsRow.holds Try.pinned (OpenSpec.ofChange bitsNarrowsWrong)

/-- 'backwaterlaw01.BitsBack': WHATEVER THE INPUT: true; the input reads as it did. -/
def bitsBackSpec : ChangeSpec := { name := "bitsBack", fn := fun _ => fun
  | [d1, d2, d3] => { results := [.lit (.bool true)], args := [d1, d2, d3] }
  | _ => none }
def bitsBackRow : OpenClaim := { program := "ytklibbmlkjlbiaa", sum := "f8da74c0cc3c1b4a9525df4e188d5495a1a689b87333fb3fb9c1721c4339f22a", func := "backwater/backwaterlaw01.BitsBack", spec := "bitsBack", apart := false }
def BitsBackSaid : Prop := bitsBackRow.holds Try.pinned (OpenSpec.ofChange bitsBackSpec)

/-- ITS FALSE NEIGHBOUR: 'it returns false'. Refute it at one input. -/
def bitsBackWrong : ChangeSpec := { name := "bitsBack", fn := fun _ => fun
  | [d1, d2, d3] => { results := [.lit (.bool false)], args := [d1, d2, d3] }
  | _ => none }
def BitsBackWrongFalsely : Prop := bitsBackRow.holds Try.pinned (OpenSpec.ofChange bitsBackWrong)

/- THE SECOND FORM. 'bulk': how many values and letters a reading holds, each counted each time it is reached (what is shared counts as often as it is met; a slice's spare places count too). A statement '..UptoSaid' is the law's where the arguments, and the package variables that the reading takes, are together of bulk at most 1048576: NARROWER than '..Said'. Prove '..Said' where nothing that the law and all that it calls make is longer than what came in: it says more and counts as full. Else prove '..UptoSaid'. A law counts once. -/
mutual
def uptoBulk {H : Type} : DataW H → Nat
  | .lit (.string bytes) => bytes.length + 1
  | .lit _ => 1
  | .nil => 1
  | .ptr d => uptoBulk d + 1
  | .slice elems spare => uptoBulkAll elems + uptoBulkAll spare + 1
  | .agg parts => uptoBulkAll parts + 1
  | .iface _ d => uptoBulk d + 1
  | .map entries => uptoBulkEntries entries + 1
  | .held _ => 1
def uptoBulkAll {H : Type} : List (DataW H) → Nat
  | [] => 0
  | d :: r => uptoBulk d + uptoBulkAll r
def uptoBulkEntries {H : Type} : List (Lit × DataW H) → Nat
  | [] => 0
  | x :: r => uptoBulkEntry x + uptoBulkEntries r
def uptoBulkEntry {H : Type} : Lit × DataW H → Nat
  | (.string bytes, d) => bytes.length + uptoBulk d + 1
  | (_, d) => uptoBulk d + 1
 end
def uptoSmall : (H : Type) → List (DataW H) → Bool := fun _ ds => decide (uptoBulkAll ds ≤ 1048576)
def OpenSpec.upto (s : _root_.Go.ChangeSpec) : _root_.Go.OpenSpec := { _root_.Go.OpenSpec.ofChange s with cond := some uptoSmall }

/-- 'backwaterlaw01.BitsZigs', WHERE WHAT IT READS IS OF BULK AT MOST 1048576: true; the input reads as it did. -/
def bitsZigsUptoRow : OpenClaim := { program := "ytklibbmlkjlbiaa", sum := "f8da74c0cc3c1b4a9525df4e188d5495a1a689b87333fb3fb9c1721c4339f22a", func := "backwater/backwaterlaw01.BitsZigs", spec := "bitsZigs", apart := false, narrowed := true }
def BitsZigsUptoSaid : Prop := bitsZigsUptoRow.holds Try.pinned (OpenSpec.upto bitsZigsSpec)

/-- 'backwaterlaw01.BitsFolds', WHERE WHAT IT READS IS OF BULK AT MOST 1048576: true; the input reads as it did. -/
def bitsFoldsUptoRow : OpenClaim := { program := "ytklibbmlkjlbiaa", sum := "f8da74c0cc3c1b4a9525df4e188d5495a1a689b87333fb3fb9c1721c4339f22a", func := "backwater/backwaterlaw01.BitsFolds", spec := "bitsFolds", apart := false, narrowed := true }
def BitsFoldsUptoSaid : Prop := bitsFoldsUptoRow.holds Try.pinned (OpenSpec.upto bitsFoldsSpec)

/-- 'backwaterlaw01.BitsSmall', WHERE WHAT IT READS IS OF BULK AT MOST 1048576: true; the input reads as it did. -/
def bitsSmallUptoRow : OpenClaim := { program := "ytklibbmlkjlbiaa", sum := "f8da74c0cc3c1b4a9525df4e188d5495a1a689b87333fb3fb9c1721c4339f22a", func := "backwater/backwaterlaw01.BitsSmall", spec := "bitsSmall", apart := false, narrowed := true }
def BitsSmallUptoSaid : Prop := bitsSmallUptoRow.holds Try.pinned (OpenSpec.upto bitsSmallSpec)

/-- 'backwaterlaw01.BitsFids', WHERE WHAT IT READS IS OF BULK AT MOST 1048576: true; the input reads as it did. -/
def bitsFidsUptoRow : OpenClaim := { program := "ytklibbmlkjlbiaa", sum := "f8da74c0cc3c1b4a9525df4e188d5495a1a689b87333fb3fb9c1721c4339f22a", func := "backwater/backwaterlaw01.BitsFids", spec := "bitsFids", apart := false, narrowed := true }
def BitsFidsUptoSaid : Prop := bitsFidsUptoRow.holds Try.pinned (OpenSpec.upto bitsFidsSpec)

/-- 'backwatertop.TopFids', WHERE WHAT IT READS IS OF BULK AT MOST 1048576: true; the input reads as it did. -/
def topFidsUptoRow : OpenClaim := { program := "ytklibbmlkjlbiaa", sum := "f8da74c0cc3c1b4a9525df4e188d5495a1a689b87333fb3fb9c1721c4339f22a", func := "backwater/backwatertop.TopFids", spec := "topFids", apart := false, narrowed := true }
def TopFidsUptoSaid : Prop := topFidsUptoRow.holds Try.pinned (OpenSpec.upto topFidsSpec)

/-- 'backwaterlaw01.BitsMade', WHERE WHAT IT READS IS OF BULK AT MOST 1048576: true; the input reads as it did. -/
def bitsMadeUptoRow : OpenClaim := { program := "ytklibbmlkjlbiaa", sum := "f8da74c0cc3c1b4a9525df4e188d5495a1a689b87333fb3fb9c1721c4339f22a", func := "backwater/backwaterlaw01.BitsMade", spec := "bitsMade", apart := false, narrowed := true }
def BitsMadeUptoSaid : Prop := bitsMadeUptoRow.holds Try.pinned (OpenSpec.upto bitsMadeSpec)

/-- 'backwatertop.TopRow', WHERE WHAT IT READS IS OF BULK AT MOST 1048576: true; the input reads as it did. -/
def topRowUptoRow : OpenClaim := { program := "ytklibbmlkjlbiaa", sum := "f8da74c0cc3c1b4a9525df4e188d5495a1a689b87333fb3fb9c1721c4339f22a", func := "backwater/backwatertop.TopRow", spec := "topRow", unfollowed := true, recurses := true, apart := false, narrowed := true }
def TopRowUptoSaid : Prop := topRowUptoRow.holds Try.pinned (OpenSpec.upto topRowSpec)

/-- 'backwaterlaw01.BitsRound', WHERE WHAT IT READS IS OF BULK AT MOST 1048576: true; the input reads as it did. -/
def bitsRoundUptoRow : OpenClaim := { program := "ytklibbmlkjlbiaa", sum := "f8da74c0cc3c1b4a9525df4e188d5495a1a689b87333fb3fb9c1721c4339f22a", func := "backwater/backwaterlaw01.BitsRound", spec := "bitsRound", apart := false, narrowed := true }
def BitsRoundUptoSaid : Prop := bitsRoundUptoRow.holds Try.pinned (OpenSpec.upto bitsRoundSpec)

/-- 'backwatertop.TopCalled', WHERE WHAT IT READS IS OF BULK AT MOST 1048576: true; the input reads as it did. -/
def topCalledUptoRow : OpenClaim := { program := "ytklibbmlkjlbiaa", sum := "f8da74c0cc3c1b4a9525df4e188d5495a1a689b87333fb3fb9c1721c4339f22a", func := "backwater/backwatertop.TopCalled", spec := "topCalled", apart := false, narrowed := true }
def TopCalledUptoSaid : Prop := topCalledUptoRow.holds Try.pinned (OpenSpec.upto topCalledSpec)

/-- 'backwaterlaw01.BitsPacks', WHERE WHAT IT READS IS OF BULK AT MOST 1048576: true; the input reads as it did. -/
def bitsPacksUptoRow : OpenClaim := { program := "ytklibbmlkjlbiaa", sum := "f8da74c0cc3c1b4a9525df4e188d5495a1a689b87333fb3fb9c1721c4339f22a", func := "backwater/backwaterlaw01.BitsPacks", spec := "bitsPacks", apart := false, narrowed := true }
def BitsPacksUptoSaid : Prop := bitsPacksUptoRow.holds Try.pinned (OpenSpec.upto bitsPacksSpec)

/-- 'backwaterlaw01.BitsNarrows', WHERE WHAT IT READS IS OF BULK AT MOST 1048576: true; the input reads as it did. -/
def bitsNarrowsUptoRow : OpenClaim := { program := "ytklibbmlkjlbiaa", sum := "f8da74c0cc3c1b4a9525df4e188d5495a1a689b87333fb3fb9c1721c4339f22a", func := "backwater/backwaterlaw01.BitsNarrows", spec := "bitsNarrows", apart := false, narrowed := true }
def BitsNarrowsUptoSaid : Prop := bitsNarrowsUptoRow.holds Try.pinned (OpenSpec.upto bitsNarrowsSpec)

/-- 'backwaterlaw01.BitsBack', WHERE WHAT IT READS IS OF BULK AT MOST 1048576: true; the input reads as it did. -/
def bitsBackUptoRow : OpenClaim := { program := "ytklibbmlkjlbiaa", sum := "f8da74c0cc3c1b4a9525df4e188d5495a1a689b87333fb3fb9c1721c4339f22a", func := "backwater/backwaterlaw01.BitsBack", spec := "bitsBack", apart := false, narrowed := true }
def BitsBackUptoSaid : Prop := bitsBackUptoRow.holds Try.pinned (OpenSpec.upto bitsBackSpec)

end Rows
end Go.Proofs.Ytklibbmlkjlbiaa
