/-
  No cell of these rows narrows 'for every input' (looked for: loops, veiled, ifaces, maps, wideKeys, modest, calm, conditions, laid).
  DERIVED. THE GIVEN ROWS OF THIS SEAT. 6 by the template 'for every input the law returns true; each argument reads behind the call as it read before'; 0 by the template 'total and deterministic' (their statements: YtgdnkgfgakhpeaaTotals.lean).
  GIVEN WITH THE SEED: the statements are not yours to turn. If you find one false, say at which input.
  Laid BY PROGRAM, IN A SANDBOX (cutbox-rows.mjs): the forced cells as the released guide's own fill.sh prints them over the translation de789c0a7ecbf2bd… (all of the seat's roots in one cut). By AI agents, Wed Nov 11 2026. No macro, syntax, notation, axiom, sorry.
-/
import Derived.Test.YtgdnkgfgakhpeaaChecked
import GoSem.Claim
import GoSem.ClaimJoined
import GoSem.ClaimMapViews
import Derived.JoinedTies
import Derived.KernelRfl
namespace Go.Proofs.Ytgdnkgfgakhpeaa
/- THE CELL 'sum', in the pinned program and in every row, IS THE sha256 OF THE DUMP (.gsa) THAT YtgdnkgfgakhpeaaProg.lean LOADS. Nothing in Lean hashes anything: it is a label: what it is worth is what the hold of that sum in a sandbox is worth. -/
noncomputable def Try.pinned : Pinned := { name := "ytgdnkgfgakhpeaa", sum := "de789c0a7ecbf2bd888fc9cff6e746b60405b3a6d05bb8fbc8ad36b06eb7eee9", checked := Try.checked }
namespace Rows
def none {H : Type} : Left H := { results := [], args := [] }

/-- 'gosperlaw19.ForkTells': WHATEVER THE INPUT: true; the input reads as it did. -/
def forkTellsSpec : ChangeSpec := { name := "forkTells", fn := fun _ => fun
  | [d1, d2, d3, d4, d5, d6, d7] => { results := [.lit (.bool true)], args := [d1, d2, d3, d4, d5, d6, d7] }
  | _ => none }
def forkTellsRow : OpenClaim := { program := "ytgdnkgfgakhpeaa", sum := "de789c0a7ecbf2bd888fc9cff6e746b60405b3a6d05bb8fbc8ad36b06eb7eee9", func := "gosper/gosperlaw19.ForkTells", spec := "forkTells", unfollowed := true, recurses := true, apart := false }
def ForkTellsSaid : Prop := forkTellsRow.holds Try.pinned (OpenSpec.ofChange forkTellsSpec)

/-- ITS FALSE NEIGHBOUR: 'it returns false'. Refute it at one input. -/
def forkTellsWrong : ChangeSpec := { name := "forkTells", fn := fun _ => fun
  | [d1, d2, d3, d4, d5, d6, d7] => { results := [.lit (.bool false)], args := [d1, d2, d3, d4, d5, d6, d7] }
  | _ => none }
def ForkTellsWrongFalsely : Prop := forkTellsRow.holds Try.pinned (OpenSpec.ofChange forkTellsWrong)

/-- 'gosperlaw19.ForkSums': WHATEVER THE INPUT: true; the input reads as it did. -/
def forkSumsSpec : ChangeSpec := { name := "forkSums", fn := fun _ => fun
  | [d1, d2, d3, d4] => { results := [.lit (.bool true)], args := [d1, d2, d3, d4] }
  | _ => none }
def forkSumsRow : OpenClaim := { program := "ytgdnkgfgakhpeaa", sum := "de789c0a7ecbf2bd888fc9cff6e746b60405b3a6d05bb8fbc8ad36b06eb7eee9", func := "gosper/gosperlaw19.ForkSums", spec := "forkSums", unfollowed := true, recurses := true, apart := false }
def ForkSumsSaid : Prop := forkSumsRow.holds Try.pinned (OpenSpec.ofChange forkSumsSpec)

/-- ITS FALSE NEIGHBOUR: 'it returns false'. Refute it at one input. -/
def forkSumsWrong : ChangeSpec := { name := "forkSums", fn := fun _ => fun
  | [d1, d2, d3, d4] => { results := [.lit (.bool false)], args := [d1, d2, d3, d4] }
  | _ => none }
def ForkSumsWrongFalsely : Prop := forkSumsRow.holds Try.pinned (OpenSpec.ofChange forkSumsWrong)

/-- 'gosperlaw19.ForkEnds': WHATEVER THE INPUT: true; the input reads as it did. -/
def forkEndsSpec : ChangeSpec := { name := "forkEnds", fn := fun _ => fun
  | [d1, d2, d3] => { results := [.lit (.bool true)], args := [d1, d2, d3] }
  | _ => none }
def forkEndsRow : OpenClaim := { program := "ytgdnkgfgakhpeaa", sum := "de789c0a7ecbf2bd888fc9cff6e746b60405b3a6d05bb8fbc8ad36b06eb7eee9", func := "gosper/gosperlaw19.ForkEnds", spec := "forkEnds", unfollowed := true, recurses := true, apart := false }
def ForkEndsSaid : Prop := forkEndsRow.holds Try.pinned (OpenSpec.ofChange forkEndsSpec)

/-- ITS FALSE NEIGHBOUR: 'it returns false'. Refute it at one input. -/
def forkEndsWrong : ChangeSpec := { name := "forkEnds", fn := fun _ => fun
  | [d1, d2, d3] => { results := [.lit (.bool false)], args := [d1, d2, d3] }
  | _ => none }
def ForkEndsWrongFalsely : Prop := forkEndsRow.holds Try.pinned (OpenSpec.ofChange forkEndsWrong)

/-- 'gosperlaw19.ForkAlone': WHATEVER THE INPUT: true; the input reads as it did. -/
def forkAloneSpec : ChangeSpec := { name := "forkAlone", fn := fun _ => fun
  | [d1, d2] => { results := [.lit (.bool true)], args := [d1, d2] }
  | _ => none }
def forkAloneRow : OpenClaim := { program := "ytgdnkgfgakhpeaa", sum := "de789c0a7ecbf2bd888fc9cff6e746b60405b3a6d05bb8fbc8ad36b06eb7eee9", func := "gosper/gosperlaw19.ForkAlone", spec := "forkAlone", unfollowed := true, recurses := true, apart := false }
def ForkAloneSaid : Prop := forkAloneRow.holds Try.pinned (OpenSpec.ofChange forkAloneSpec)

/-- ITS FALSE NEIGHBOUR: 'it returns false'. Refute it at one input. -/
def forkAloneWrong : ChangeSpec := { name := "forkAlone", fn := fun _ => fun
  | [d1, d2] => { results := [.lit (.bool false)], args := [d1, d2] }
  | _ => none }
def ForkAloneWrongFalsely : Prop := forkAloneRow.holds Try.pinned (OpenSpec.ofChange forkAloneWrong)

/-- 'gosperlaw19.ForkWide': WHATEVER THE INPUT: true; the input reads as it did. -/
def forkWideSpec : ChangeSpec := { name := "forkWide", fn := fun _ => fun
  | [d1, d2, d3] => { results := [.lit (.bool true)], args := [d1, d2, d3] }
  | _ => none }
def forkWideRow : OpenClaim := { program := "ytgdnkgfgakhpeaa", sum := "de789c0a7ecbf2bd888fc9cff6e746b60405b3a6d05bb8fbc8ad36b06eb7eee9", func := "gosper/gosperlaw19.ForkWide", spec := "forkWide", unfollowed := true, recurses := true, apart := false }
def ForkWideSaid : Prop := forkWideRow.holds Try.pinned (OpenSpec.ofChange forkWideSpec)

/-- ITS FALSE NEIGHBOUR: 'it returns false'. Refute it at one input. -/
def forkWideWrong : ChangeSpec := { name := "forkWide", fn := fun _ => fun
  | [d1, d2, d3] => { results := [.lit (.bool false)], args := [d1, d2, d3] }
  | _ => none }
def ForkWideWrongFalsely : Prop := forkWideRow.holds Try.pinned (OpenSpec.ofChange forkWideWrong)

/-- 'gosperlaw19.ForkValues': WHATEVER THE INPUT: true; the input reads as it did. -/
def forkValuesSpec : ChangeSpec := { name := "forkValues", fn := fun _ => fun
  | [d1, d2, d3, d4, d5] => { results := [.lit (.bool true)], args := [d1, d2, d3, d4, d5] }
  | _ => none }
def forkValuesRow : OpenClaim := { program := "ytgdnkgfgakhpeaa", sum := "de789c0a7ecbf2bd888fc9cff6e746b60405b3a6d05bb8fbc8ad36b06eb7eee9", func := "gosper/gosperlaw19.ForkValues", spec := "forkValues", unfollowed := true, recurses := true, apart := false }
def ForkValuesSaid : Prop := forkValuesRow.holds Try.pinned (OpenSpec.ofChange forkValuesSpec)

/-- ITS FALSE NEIGHBOUR: 'it returns false'. Refute it at one input. -/
def forkValuesWrong : ChangeSpec := { name := "forkValues", fn := fun _ => fun
  | [d1, d2, d3, d4, d5] => { results := [.lit (.bool false)], args := [d1, d2, d3, d4, d5] }
  | _ => none }
def ForkValuesWrongFalsely : Prop := forkValuesRow.holds Try.pinned (OpenSpec.ofChange forkValuesWrong)

/- THE SECOND FORM. 'bulk': how many values and letters a reading holds, each counted each time it is reached (what is shared counts as often as it is met; a slice's spare places count too). A statement '..UptoSaid' is the law's where the arguments, and the package variables that the reading takes, are together of bulk at most 1048576: NARROWER than '..Said'. Prove '..Said' where nothing that the law and all that it calls make is longer than what came in: it says more and counts as full. Else prove '..UptoSaid'. A law counts once. -/
mutual
def uptoBulk {H : Type} : DataW H → Nat
  | .lit (.string bytes) => bytes.length + 1
  | .lit _ => 1
  | .nil => 1
  | .ptr d => uptoBulk d + 1
  | .slice elems spare => uptoBulkAll elems + uptoBulkAll spare + 1
  | .agg parts => uptoBulkAll parts + 1
  | .iface _ d => uptoBulk d + 1
  | .map entries => uptoBulkEntries entries + 1
  | .held _ => 1
def uptoBulkAll {H : Type} : List (DataW H) → Nat
  | [] => 0
  | d :: r => uptoBulk d + uptoBulkAll r
def uptoBulkEntries {H : Type} : List (Lit × DataW H) → Nat
  | [] => 0
  | x :: r => uptoBulkEntry x + uptoBulkEntries r
def uptoBulkEntry {H : Type} : Lit × DataW H → Nat
  | (.string bytes, d) => bytes.length + uptoBulk d + 1
  | (_, d) => uptoBulk d + 1
 end
def uptoSmall : (H : Type) → List (DataW H) → Bool := fun _ ds => decide (uptoBulkAll ds ≤ 1048576)
def OpenSpec.upto (s : _root_.Go.ChangeSpec) : _root_.Go.OpenSpec := { _root_.Go.OpenSpec.ofChange s with cond := some uptoSmall }

/-- 'gosperlaw19.ForkTells', WHERE WHAT IT READS IS OF BULK AT MOST 1048576: true; the input reads as it did. -/
def forkTellsUptoRow : OpenClaim := { program := "ytgdnkgfgakhpeaa", sum := "de789c0a7ecbf2bd888fc9cff6e746b60405b3a6d05bb8fbc8ad36b06eb7eee9", func := "gosper/gosperlaw19.ForkTells", spec := "forkTells", unfollowed := true, recurses := true, apart := false, narrowed := true }
def ForkTellsUptoSaid : Prop := forkTellsUptoRow.holds Try.pinned (OpenSpec.upto forkTellsSpec)

/-- 'gosperlaw19.ForkSums', WHERE WHAT IT READS IS OF BULK AT MOST 1048576: true; the input reads as it did. -/
def forkSumsUptoRow : OpenClaim := { program := "ytgdnkgfgakhpeaa", sum := "de789c0a7ecbf2bd888fc9cff6e746b60405b3a6d05bb8fbc8ad36b06eb7eee9", func := "gosper/gosperlaw19.ForkSums", spec := "forkSums", unfollowed := true, recurses := true, apart := false, narrowed := true }
def ForkSumsUptoSaid : Prop := forkSumsUptoRow.holds Try.pinned (OpenSpec.upto forkSumsSpec)

/-- 'gosperlaw19.ForkEnds', WHERE WHAT IT READS IS OF BULK AT MOST 1048576: true; the input reads as it did. -/
def forkEndsUptoRow : OpenClaim := { program := "ytgdnkgfgakhpeaa", sum := "de789c0a7ecbf2bd888fc9cff6e746b60405b3a6d05bb8fbc8ad36b06eb7eee9", func := "gosper/gosperlaw19.ForkEnds", spec := "forkEnds", unfollowed := true, recurses := true, apart := false, narrowed := true }
def ForkEndsUptoSaid : Prop := forkEndsUptoRow.holds Try.pinned (OpenSpec.upto forkEndsSpec)

/-- 'gosperlaw19.ForkAlone', WHERE WHAT IT READS IS OF BULK AT MOST 1048576: true; the input reads as it did. -/
def forkAloneUptoRow : OpenClaim := { program := "ytgdnkgfgakhpeaa", sum := "de789c0a7ecbf2bd888fc9cff6e746b60405b3a6d05bb8fbc8ad36b06eb7eee9", func := "gosper/gosperlaw19.ForkAlone", spec := "forkAlone", unfollowed := true, recurses := true, apart := false, narrowed := true }
def ForkAloneUptoSaid : Prop := forkAloneUptoRow.holds Try.pinned (OpenSpec.upto forkAloneSpec)

/-- 'gosperlaw19.ForkWide', WHERE WHAT IT READS IS OF BULK AT MOST 1048576: true; the input reads as it did. -/
def forkWideUptoRow : OpenClaim := { program := "ytgdnkgfgakhpeaa", sum := "de789c0a7ecbf2bd888fc9cff6e746b60405b3a6d05bb8fbc8ad36b06eb7eee9", func := "gosper/gosperlaw19.ForkWide", spec := "forkWide", unfollowed := true, recurses := true, apart := false, narrowed := true }
def ForkWideUptoSaid : Prop := forkWideUptoRow.holds Try.pinned (OpenSpec.upto forkWideSpec)

/-- 'gosperlaw19.ForkValues', WHERE WHAT IT READS IS OF BULK AT MOST 1048576: true; the input reads as it did. -/
def forkValuesUptoRow : OpenClaim := { program := "ytgdnkgfgakhpeaa", sum := "de789c0a7ecbf2bd888fc9cff6e746b60405b3a6d05bb8fbc8ad36b06eb7eee9", func := "gosper/gosperlaw19.ForkValues", spec := "forkValues", unfollowed := true, recurses := true, apart := false, narrowed := true }
def ForkValuesUptoSaid : Prop := forkValuesUptoRow.holds Try.pinned (OpenSpec.upto forkValuesSpec)

end Rows
end Go.Proofs.Ytgdnkgfgakhpeaa
