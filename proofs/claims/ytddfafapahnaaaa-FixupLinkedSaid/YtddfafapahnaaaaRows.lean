/-
  No cell of these rows narrows 'for every input' (looked for: loops, veiled, ifaces, maps, wideKeys, modest, calm, conditions, laid).
  DERIVED. THE GIVEN ROWS OF THIS SEAT. 6 by the template 'for every input the law returns true; each argument reads behind the call as it read before'; 0 by the template 'total and deterministic' (their statements: YtddfafapahnaaaaTotals.lean).
  GIVEN WITH THE SEED: the statements are not yours to turn. If you find one false, say at which input.
  Laid BY PROGRAM, IN A SANDBOX (cutbox-rows.mjs): the forced cells as the released guide's own fill.sh prints them over the translation 90eb422ce567c5f9… (all of the seat's roots in one cut). By AI agents, Wed Nov 11 2026. No macro, syntax, notation, axiom, sorry.
-/
import Derived.Test.YtddfafapahnaaaaChecked
import GoSem.Claim
import GoSem.ClaimJoined
import GoSem.ClaimMapViews
import Derived.JoinedTies
import Derived.KernelRfl
namespace Go.Proofs.Ytddfafapahnaaaa
/- THE CELL 'sum', in the pinned program and in every row, IS THE sha256 OF THE DUMP (.gsa) THAT YtddfafapahnaaaaProg.lean LOADS. Nothing in Lean hashes anything: it is a label: what it is worth is what the hold of that sum in a sandbox is worth. -/
noncomputable def Try.pinned : Pinned := { name := "ytddfafapahnaaaa", sum := "90eb422ce567c5f90c985eed3d0cfddcca1fff79a2dc8120cb09aaf35e6a705e", checked := Try.checked }
namespace Rows
def none {H : Type} : Left H := { results := [], args := [] }

/-- 'cooperlaw18.FixupResolves': WHATEVER THE INPUT: true; the input reads as it did. -/
def fixupResolvesSpec : ChangeSpec := { name := "fixupResolves", fn := fun _ => fun
  | [d] => { results := [.lit (.bool true)], args := [d] }
  | _ => none }
def fixupResolvesRow : OpenClaim := { program := "ytddfafapahnaaaa", sum := "90eb422ce567c5f90c985eed3d0cfddcca1fff79a2dc8120cb09aaf35e6a705e", func := "cooper/cooperlaw18.FixupResolves", spec := "fixupResolves", unfollowed := true, recurses := true, apart := false }
def FixupResolvesSaid : Prop := fixupResolvesRow.holds Try.pinned (OpenSpec.ofChange fixupResolvesSpec)

/-- ITS FALSE NEIGHBOUR: 'it returns false'. Refute it at one input. -/
def fixupResolvesWrong : ChangeSpec := { name := "fixupResolves", fn := fun _ => fun
  | [d] => { results := [.lit (.bool false)], args := [d] }
  | _ => none }
def FixupResolvesWrongFalsely : Prop := fixupResolvesRow.holds Try.pinned (OpenSpec.ofChange fixupResolvesWrong)

/-- 'cooperlaw18.FixupLinked': WHATEVER THE INPUT: true; the input reads as it did. -/
def fixupLinkedSpec : ChangeSpec := { name := "fixupLinked", fn := fun _ => fun
  | [d1, d2, d3] => { results := [.lit (.bool true)], args := [d1, d2, d3] }
  | _ => none }
def fixupLinkedRow : OpenClaim := { program := "ytddfafapahnaaaa", sum := "90eb422ce567c5f90c985eed3d0cfddcca1fff79a2dc8120cb09aaf35e6a705e", func := "cooper/cooperlaw18.FixupLinked", spec := "fixupLinked", unfollowed := true, recurses := true, apart := false }
def FixupLinkedSaid : Prop := fixupLinkedRow.holds Try.pinned (OpenSpec.ofChange fixupLinkedSpec)

/-- ITS FALSE NEIGHBOUR: 'it returns false'. Refute it at one input. -/
def fixupLinkedWrong : ChangeSpec := { name := "fixupLinked", fn := fun _ => fun
  | [d1, d2, d3] => { results := [.lit (.bool false)], args := [d1, d2, d3] }
  | _ => none }
def FixupLinkedWrongFalsely : Prop := fixupLinkedRow.holds Try.pinned (OpenSpec.ofChange fixupLinkedWrong)

/-- 'cooperlaw18.FixupHoles': WHATEVER THE INPUT: true; the input reads as it did. -/
def fixupHolesSpec : ChangeSpec := { name := "fixupHoles", fn := fun _ => fun
  | [d1, d2] => { results := [.lit (.bool true)], args := [d1, d2] }
  | _ => none }
def fixupHolesRow : OpenClaim := { program := "ytddfafapahnaaaa", sum := "90eb422ce567c5f90c985eed3d0cfddcca1fff79a2dc8120cb09aaf35e6a705e", func := "cooper/cooperlaw18.FixupHoles", spec := "fixupHoles", unfollowed := true, recurses := true, apart := false }
def FixupHolesSaid : Prop := fixupHolesRow.holds Try.pinned (OpenSpec.ofChange fixupHolesSpec)

/-- ITS FALSE NEIGHBOUR: 'it returns false'. Refute it at one input. -/
def fixupHolesWrong : ChangeSpec := { name := "fixupHoles", fn := fun _ => fun
  | [d1, d2] => { results := [.lit (.bool false)], args := [d1, d2] }
  | _ => none }
def FixupHolesWrongFalsely : Prop := fixupHolesRow.holds Try.pinned (OpenSpec.ofChange fixupHolesWrong)

/-- 'cooperlaw18.FixupOne': WHATEVER THE INPUT: true; the input reads as it did. -/
def fixupOneSpec : ChangeSpec := { name := "fixupOne", fn := fun _ => fun
  | [d1, d2] => { results := [.lit (.bool true)], args := [d1, d2] }
  | _ => none }
def fixupOneRow : OpenClaim := { program := "ytddfafapahnaaaa", sum := "90eb422ce567c5f90c985eed3d0cfddcca1fff79a2dc8120cb09aaf35e6a705e", func := "cooper/cooperlaw18.FixupOne", spec := "fixupOne", unfollowed := true, recurses := true, apart := false }
def FixupOneSaid : Prop := fixupOneRow.holds Try.pinned (OpenSpec.ofChange fixupOneSpec)

/-- ITS FALSE NEIGHBOUR: 'it returns false'. Refute it at one input. -/
def fixupOneWrong : ChangeSpec := { name := "fixupOne", fn := fun _ => fun
  | [d1, d2] => { results := [.lit (.bool false)], args := [d1, d2] }
  | _ => none }
def FixupOneWrongFalsely : Prop := fixupOneRow.holds Try.pinned (OpenSpec.ofChange fixupOneWrong)

/-- 'cooperlaw18.FixupFills': WHATEVER THE INPUT: true; the input reads as it did. -/
def fixupFillsSpec : ChangeSpec := { name := "fixupFills", fn := fun _ => fun
  | [d1, d2, d3] => { results := [.lit (.bool true)], args := [d1, d2, d3] }
  | _ => none }
def fixupFillsRow : OpenClaim := { program := "ytddfafapahnaaaa", sum := "90eb422ce567c5f90c985eed3d0cfddcca1fff79a2dc8120cb09aaf35e6a705e", func := "cooper/cooperlaw18.FixupFills", spec := "fixupFills", unfollowed := true, recurses := true, apart := false }
def FixupFillsSaid : Prop := fixupFillsRow.holds Try.pinned (OpenSpec.ofChange fixupFillsSpec)

/-- ITS FALSE NEIGHBOUR: 'it returns false'. Refute it at one input. -/
def fixupFillsWrong : ChangeSpec := { name := "fixupFills", fn := fun _ => fun
  | [d1, d2, d3] => { results := [.lit (.bool false)], args := [d1, d2, d3] }
  | _ => none }
def FixupFillsWrongFalsely : Prop := fixupFillsRow.holds Try.pinned (OpenSpec.ofChange fixupFillsWrong)

/-- 'cooperlaw18.FixupBack': WHATEVER THE INPUT: true; the input reads as it did. -/
def fixupBackSpec : ChangeSpec := { name := "fixupBack", fn := fun _ => fun
  | [d1, d2, d3] => { results := [.lit (.bool true)], args := [d1, d2, d3] }
  | _ => none }
def fixupBackRow : OpenClaim := { program := "ytddfafapahnaaaa", sum := "90eb422ce567c5f90c985eed3d0cfddcca1fff79a2dc8120cb09aaf35e6a705e", func := "cooper/cooperlaw18.FixupBack", spec := "fixupBack", unfollowed := true, recurses := true, apart := false }
def FixupBackSaid : Prop := fixupBackRow.holds Try.pinned (OpenSpec.ofChange fixupBackSpec)

/-- ITS FALSE NEIGHBOUR: 'it returns false'. Refute it at one input. -/
def fixupBackWrong : ChangeSpec := { name := "fixupBack", fn := fun _ => fun
  | [d1, d2, d3] => { results := [.lit (.bool false)], args := [d1, d2, d3] }
  | _ => none }
def FixupBackWrongFalsely : Prop := fixupBackRow.holds Try.pinned (OpenSpec.ofChange fixupBackWrong)

/- THE SECOND FORM. 'bulk': how many values and letters a reading holds, each counted each time it is reached (what is shared counts as often as it is met; a slice's spare places count too). A statement '..UptoSaid' is the law's where the arguments, and the package variables that the reading takes, are together of bulk at most 1048576: NARROWER than '..Said'. Prove '..Said' where nothing that the law and all that it calls make is longer than what came in: it says more and counts as full. Else prove '..UptoSaid'. A law counts once. -/
mutual
def uptoBulk {H : Type} : DataW H → Nat
  | .lit (.string bytes) => bytes.length + 1
  | .lit _ => 1
  | .nil => 1
  | .ptr d => uptoBulk d + 1
  | .slice elems spare => uptoBulkAll elems + uptoBulkAll spare + 1
  | .agg parts => uptoBulkAll parts + 1
  | .iface _ d => uptoBulk d + 1
  | .map entries => uptoBulkEntries entries + 1
  | .held _ => 1
def uptoBulkAll {H : Type} : List (DataW H) → Nat
  | [] => 0
  | d :: r => uptoBulk d + uptoBulkAll r
def uptoBulkEntries {H : Type} : List (Lit × DataW H) → Nat
  | [] => 0
  | x :: r => uptoBulkEntry x + uptoBulkEntries r
def uptoBulkEntry {H : Type} : Lit × DataW H → Nat
  | (.string bytes, d) => bytes.length + uptoBulk d + 1
  | (_, d) => uptoBulk d + 1
 end
def uptoSmall : (H : Type) → List (DataW H) → Bool := fun _ ds => decide (uptoBulkAll ds ≤ 1048576)
def OpenSpec.upto (s : _root_.Go.ChangeSpec) : _root_.Go.OpenSpec := { _root_.Go.OpenSpec.ofChange s with cond := some uptoSmall }

/-- 'cooperlaw18.FixupResolves', WHERE WHAT IT READS IS OF BULK AT MOST 1048576: true; the input reads as it did. -/
def fixupResolvesUptoRow : OpenClaim := { program := "ytddfafapahnaaaa", sum := "90eb422ce567c5f90c985eed3d0cfddcca1fff79a2dc8120cb09aaf35e6a705e", func := "cooper/cooperlaw18.FixupResolves", spec := "fixupResolves", unfollowed := true, recurses := true, apart := false, narrowed := true }
def FixupResolvesUptoSaid : Prop := fixupResolvesUptoRow.holds Try.pinned (OpenSpec.upto fixupResolvesSpec)

/-- 'cooperlaw18.FixupLinked', WHERE WHAT IT READS IS OF BULK AT MOST 1048576: true; the input reads as it did. -/
def fixupLinkedUptoRow : OpenClaim := { program := "ytddfafapahnaaaa", sum := "90eb422ce567c5f90c985eed3d0cfddcca1fff79a2dc8120cb09aaf35e6a705e", func := "cooper/cooperlaw18.FixupLinked", spec := "fixupLinked", unfollowed := true, recurses := true, apart := false, narrowed := true }
def FixupLinkedUptoSaid : Prop := fixupLinkedUptoRow.holds Try.pinned (OpenSpec.upto fixupLinkedSpec)

/-- 'cooperlaw18.FixupHoles', WHERE WHAT IT READS IS OF BULK AT MOST 1048576: true; the input reads as it did. -/
def fixupHolesUptoRow : OpenClaim := { program := "ytddfafapahnaaaa", sum := "90eb422ce567c5f90c985eed3d0cfddcca1fff79a2dc8120cb09aaf35e6a705e", func := "cooper/cooperlaw18.FixupHoles", spec := "fixupHoles", unfollowed := true, recurses := true, apart := false, narrowed := true }
def FixupHolesUptoSaid : Prop := fixupHolesUptoRow.holds Try.pinned (OpenSpec.upto fixupHolesSpec)

/-- 'cooperlaw18.FixupOne', WHERE WHAT IT READS IS OF BULK AT MOST 1048576: true; the input reads as it did. -/
def fixupOneUptoRow : OpenClaim := { program := "ytddfafapahnaaaa", sum := "90eb422ce567c5f90c985eed3d0cfddcca1fff79a2dc8120cb09aaf35e6a705e", func := "cooper/cooperlaw18.FixupOne", spec := "fixupOne", unfollowed := true, recurses := true, apart := false, narrowed := true }
def FixupOneUptoSaid : Prop := fixupOneUptoRow.holds Try.pinned (OpenSpec.upto fixupOneSpec)

/-- 'cooperlaw18.FixupFills', WHERE WHAT IT READS IS OF BULK AT MOST 1048576: true; the input reads as it did. -/
def fixupFillsUptoRow : OpenClaim := { program := "ytddfafapahnaaaa", sum := "90eb422ce567c5f90c985eed3d0cfddcca1fff79a2dc8120cb09aaf35e6a705e", func := "cooper/cooperlaw18.FixupFills", spec := "fixupFills", unfollowed := true, recurses := true, apart := false, narrowed := true }
def FixupFillsUptoSaid : Prop := fixupFillsUptoRow.holds Try.pinned (OpenSpec.upto fixupFillsSpec)

/-- 'cooperlaw18.FixupBack', WHERE WHAT IT READS IS OF BULK AT MOST 1048576: true; the input reads as it did. -/
def fixupBackUptoRow : OpenClaim := { program := "ytddfafapahnaaaa", sum := "90eb422ce567c5f90c985eed3d0cfddcca1fff79a2dc8120cb09aaf35e6a705e", func := "cooper/cooperlaw18.FixupBack", spec := "fixupBack", unfollowed := true, recurses := true, apart := false, narrowed := true }
def FixupBackUptoSaid : Prop := fixupBackUptoRow.holds Try.pinned (OpenSpec.upto fixupBackSpec)

end Rows
end Go.Proofs.Ytddfafapahnaaaa
