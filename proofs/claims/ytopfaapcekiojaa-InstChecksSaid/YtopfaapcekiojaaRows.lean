/-
  No cell of these rows narrows 'for every input' (looked for: loops, veiled, ifaces, maps, wideKeys, modest, calm, conditions, laid).
  DERIVED. THE GIVEN ROWS OF THIS SEAT. 9 by the template 'for every input the law returns true; each argument reads behind the call as it read before'; 0 by the template 'total and deterministic' (their statements: YtopfaapcekiojaaTotals.lean).
  GIVEN WITH THE SEED: the statements are not yours to turn. If you find one false, say at which input.
  Laid BY PROGRAM, IN A SANDBOX (cutbox-rows.mjs): the forced cells as the released guide's own fill.sh prints them over the translation 3a86a238496b9258… (all of the seat's roots in one cut). By AI agents, Wed Nov 11 2026. No macro, syntax, notation, axiom, sorry.
-/
import Derived.Test.YtopfaapcekiojaaChecked
import GoSem.Claim
import GoSem.ClaimJoined
import GoSem.ClaimMapViews
import Derived.JoinedTies
import Derived.KernelRfl
namespace Go.Proofs.Ytopfaapcekiojaa
/- THE CELL 'sum', in the pinned program and in every row, IS THE sha256 OF THE DUMP (.gsa) THAT YtopfaapcekiojaaProg.lean LOADS. Nothing in Lean hashes anything: it is a label: what it is worth is what the hold of that sum in a sandbox is worth. -/
noncomputable def Try.pinned : Pinned := { name := "ytopfaapcekiojaa", sum := "3a86a238496b9258eee9257354f3f4b2ac29ade383dadb4ace4f66925d3f2663", checked := Try.checked }
namespace Rows
def none {H : Type} : Left H := { results := [], args := [] }

/-- 'cooperlaw04.InstWithin': WHATEVER THE INPUT: true; the input reads as it did. -/
def instWithinSpec : ChangeSpec := { name := "instWithin", fn := fun _ => fun
  | [d] => { results := [.lit (.bool true)], args := [d] }
  | _ => none }
def instWithinRow : OpenClaim := { program := "ytopfaapcekiojaa", sum := "3a86a238496b9258eee9257354f3f4b2ac29ade383dadb4ace4f66925d3f2663", func := "cooper/cooperlaw04.InstWithin", spec := "instWithin", unfollowed := true, recurses := true, apart := false }
def InstWithinSaid : Prop := instWithinRow.holds Try.pinned (OpenSpec.ofChange instWithinSpec)

/-- ITS FALSE NEIGHBOUR: 'it returns false'. Refute it at one input. -/
def instWithinWrong : ChangeSpec := { name := "instWithin", fn := fun _ => fun
  | [d] => { results := [.lit (.bool false)], args := [d] }
  | _ => none }
def InstWithinWrongFalsely : Prop := instWithinRow.holds Try.pinned (OpenSpec.ofChange instWithinWrong)

/-- 'cooperlaw04.InstChecks': WHATEVER THE INPUT: true; the input reads as it did. -/
def instChecksSpec : ChangeSpec := { name := "instChecks", fn := fun _ => fun
  | [d1, d2, d3] => { results := [.lit (.bool true)], args := [d1, d2, d3] }
  | _ => none }
def instChecksRow : OpenClaim := { program := "ytopfaapcekiojaa", sum := "3a86a238496b9258eee9257354f3f4b2ac29ade383dadb4ace4f66925d3f2663", func := "cooper/cooperlaw04.InstChecks", spec := "instChecks", unfollowed := true, recurses := true, apart := false }
def InstChecksSaid : Prop := instChecksRow.holds Try.pinned (OpenSpec.ofChange instChecksSpec)

/-- ITS FALSE NEIGHBOUR: 'it returns false'. Refute it at one input. -/
def instChecksWrong : ChangeSpec := { name := "instChecks", fn := fun _ => fun
  | [d1, d2, d3] => { results := [.lit (.bool false)], args := [d1, d2, d3] }
  | _ => none }
def InstChecksWrongFalsely : Prop := instChecksRow.holds Try.pinned (OpenSpec.ofChange instChecksWrong)

/-- 'cooperlaw04.InstFields': WHATEVER THE INPUT: true; the input reads as it did. -/
def instFieldsSpec : ChangeSpec := { name := "instFields", fn := fun _ => fun
  | [d1, d2, d3] => { results := [.lit (.bool true)], args := [d1, d2, d3] }
  | _ => none }
def instFieldsRow : OpenClaim := { program := "ytopfaapcekiojaa", sum := "3a86a238496b9258eee9257354f3f4b2ac29ade383dadb4ace4f66925d3f2663", func := "cooper/cooperlaw04.InstFields", spec := "instFields", unfollowed := true, recurses := true, apart := false }
def InstFieldsSaid : Prop := instFieldsRow.holds Try.pinned (OpenSpec.ofChange instFieldsSpec)

/-- ITS FALSE NEIGHBOUR: 'it returns false'. Refute it at one input. -/
def instFieldsWrong : ChangeSpec := { name := "instFields", fn := fun _ => fun
  | [d1, d2, d3] => { results := [.lit (.bool false)], args := [d1, d2, d3] }
  | _ => none }
def InstFieldsWrongFalsely : Prop := instFieldsRow.holds Try.pinned (OpenSpec.ofChange instFieldsWrong)

/-- 'cooperlaw04.InstOne': WHATEVER THE INPUT: true; the input reads as it did. -/
def instOneSpec : ChangeSpec := { name := "instOne", fn := fun _ => fun
  | [d1, d2, d3, d4] => { results := [.lit (.bool true)], args := [d1, d2, d3, d4] }
  | _ => none }
def instOneRow : OpenClaim := { program := "ytopfaapcekiojaa", sum := "3a86a238496b9258eee9257354f3f4b2ac29ade383dadb4ace4f66925d3f2663", func := "cooper/cooperlaw04.InstOne", spec := "instOne", unfollowed := true, recurses := true, apart := false }
def InstOneSaid : Prop := instOneRow.holds Try.pinned (OpenSpec.ofChange instOneSpec)

/-- ITS FALSE NEIGHBOUR: 'it returns false'. Refute it at one input. -/
def instOneWrong : ChangeSpec := { name := "instOne", fn := fun _ => fun
  | [d1, d2, d3, d4] => { results := [.lit (.bool false)], args := [d1, d2, d3, d4] }
  | _ => none }
def InstOneWrongFalsely : Prop := instOneRow.holds Try.pinned (OpenSpec.ofChange instOneWrong)

/-- 'cooperlaw04.InstFars': WHATEVER THE INPUT: true; the input reads as it did. -/
def instFarsSpec : ChangeSpec := { name := "instFars", fn := fun _ => fun
  | [d1, d2, d3, d4] => { results := [.lit (.bool true)], args := [d1, d2, d3, d4] }
  | _ => none }
def instFarsRow : OpenClaim := { program := "ytopfaapcekiojaa", sum := "3a86a238496b9258eee9257354f3f4b2ac29ade383dadb4ace4f66925d3f2663", func := "cooper/cooperlaw04.InstFars", spec := "instFars", unfollowed := true, recurses := true, apart := false }
def InstFarsSaid : Prop := instFarsRow.holds Try.pinned (OpenSpec.ofChange instFarsSpec)

/-- ITS FALSE NEIGHBOUR: 'it returns false'. Refute it at one input. -/
def instFarsWrong : ChangeSpec := { name := "instFars", fn := fun _ => fun
  | [d1, d2, d3, d4] => { results := [.lit (.bool false)], args := [d1, d2, d3, d4] }
  | _ => none }
def InstFarsWrongFalsely : Prop := instFarsRow.holds Try.pinned (OpenSpec.ofChange instFarsWrong)

/-- 'cooperlaw04.InstFar': WHATEVER THE INPUT: true; the input reads as it did. -/
def instFarSpec : ChangeSpec := { name := "instFar", fn := fun _ => fun
  | [d1, d2] => { results := [.lit (.bool true)], args := [d1, d2] }
  | _ => none }
def instFarRow : OpenClaim := { program := "ytopfaapcekiojaa", sum := "3a86a238496b9258eee9257354f3f4b2ac29ade383dadb4ace4f66925d3f2663", func := "cooper/cooperlaw04.InstFar", spec := "instFar", unfollowed := true, recurses := true, apart := false }
def InstFarSaid : Prop := instFarRow.holds Try.pinned (OpenSpec.ofChange instFarSpec)

/-- ITS FALSE NEIGHBOUR: 'it returns false'. Refute it at one input. -/
def instFarWrong : ChangeSpec := { name := "instFar", fn := fun _ => fun
  | [d1, d2] => { results := [.lit (.bool false)], args := [d1, d2] }
  | _ => none }
def InstFarWrongFalsely : Prop := instFarRow.holds Try.pinned (OpenSpec.ofChange instFarWrong)

/-- 'cooperlaw06.DecUnlike': WHATEVER THE INPUT: true; the input reads as it did. -/
def decUnlikeSpec : ChangeSpec := { name := "decUnlike", fn := fun _ => fun
  | [d1, d2, d3] => { results := [.lit (.bool true)], args := [d1, d2, d3] }
  | _ => none }
def decUnlikeRow : OpenClaim := { program := "ytopfaapcekiojaa", sum := "3a86a238496b9258eee9257354f3f4b2ac29ade383dadb4ace4f66925d3f2663", func := "cooper/cooperlaw06.DecUnlike", spec := "decUnlike", unfollowed := true, recurses := true, apart := false }
def DecUnlikeSaid : Prop := decUnlikeRow.holds Try.pinned (OpenSpec.ofChange decUnlikeSpec)

/-- ITS FALSE NEIGHBOUR: 'it returns false'. Refute it at one input. -/
def decUnlikeWrong : ChangeSpec := { name := "decUnlike", fn := fun _ => fun
  | [d1, d2, d3] => { results := [.lit (.bool false)], args := [d1, d2, d3] }
  | _ => none }
def DecUnlikeWrongFalsely : Prop := decUnlikeRow.holds Try.pinned (OpenSpec.ofChange decUnlikeWrong)

/-- 'cooperlaw05.EncOwn': WHATEVER THE INPUT: true; the input reads as it did. -/
def encOwnSpec : ChangeSpec := { name := "encOwn", fn := fun _ => fun
  | [d1, d2] => { results := [.lit (.bool true)], args := [d1, d2] }
  | _ => none }
def encOwnRow : OpenClaim := { program := "ytopfaapcekiojaa", sum := "3a86a238496b9258eee9257354f3f4b2ac29ade383dadb4ace4f66925d3f2663", func := "cooper/cooperlaw05.EncOwn", spec := "encOwn", unfollowed := true, recurses := true, apart := false }
def EncOwnSaid : Prop := encOwnRow.holds Try.pinned (OpenSpec.ofChange encOwnSpec)

/-- ITS FALSE NEIGHBOUR: 'it returns false'. Refute it at one input. -/
def encOwnWrong : ChangeSpec := { name := "encOwn", fn := fun _ => fun
  | [d1, d2] => { results := [.lit (.bool false)], args := [d1, d2] }
  | _ => none }
def EncOwnWrongFalsely : Prop := encOwnRow.holds Try.pinned (OpenSpec.ofChange encOwnWrong)

/-- 'cooperlaw05.EncSets': WHATEVER THE INPUT: true; the input reads as it did. -/
def encSetsSpec : ChangeSpec := { name := "encSets", fn := fun _ => fun
  | [d1, d2] => { results := [.lit (.bool true)], args := [d1, d2] }
  | _ => none }
def encSetsRow : OpenClaim := { program := "ytopfaapcekiojaa", sum := "3a86a238496b9258eee9257354f3f4b2ac29ade383dadb4ace4f66925d3f2663", func := "cooper/cooperlaw05.EncSets", spec := "encSets", unfollowed := true, recurses := true, apart := false }
def EncSetsSaid : Prop := encSetsRow.holds Try.pinned (OpenSpec.ofChange encSetsSpec)

/-- ITS FALSE NEIGHBOUR: 'it returns false'. Refute it at one input. -/
def encSetsWrong : ChangeSpec := { name := "encSets", fn := fun _ => fun
  | [d1, d2] => { results := [.lit (.bool false)], args := [d1, d2] }
  | _ => none }
def EncSetsWrongFalsely : Prop := encSetsRow.holds Try.pinned (OpenSpec.ofChange encSetsWrong)

/- THE SECOND FORM. 'bulk': how many values and letters a reading holds, each counted each time it is reached (what is shared counts as often as it is met; a slice's spare places count too). A statement '..UptoSaid' is the law's where the arguments, and the package variables that the reading takes, are together of bulk at most 1048576: NARROWER than '..Said'. Prove '..Said' where nothing that the law and all that it calls make is longer than what came in: it says more and counts as full. Else prove '..UptoSaid'. A law counts once. -/
mutual
def uptoBulk {H : Type} : DataW H → Nat
  | .lit (.string bytes) => bytes.length + 1
  | .lit _ => 1
  | .nil => 1
  | .ptr d => uptoBulk d + 1
  | .slice elems spare => uptoBulkAll elems + uptoBulkAll spare + 1
  | .agg parts => uptoBulkAll parts + 1
  | .iface _ d => uptoBulk d + 1
  | .map entries => uptoBulkEntries entries + 1
  | .held _ => 1
def uptoBulkAll {H : Type} : List (DataW H) → Nat
  | [] => 0
  | d :: r => uptoBulk d + uptoBulkAll r
def uptoBulkEntries {H : Type} : List (Lit × DataW H) → Nat
  | [] => 0
  | x :: r => uptoBulkEntry x + uptoBulkEntries r
def uptoBulkEntry {H : Type} : Lit × DataW H → Nat
  | (.string bytes, d) => bytes.length + uptoBulk d + 1
  | (_, d) => uptoBulk d + 1
 end
def uptoSmall : (H : Type) → List (DataW H) → Bool := fun _ ds => decide (uptoBulkAll ds ≤ 1048576)
def OpenSpec.upto (s : _root_.Go.ChangeSpec) : _root_.Go.OpenSpec := { _root_.Go.OpenSpec.ofChange s with cond := some uptoSmall }

/-- 'cooperlaw04.InstWithin', WHERE WHAT IT READS IS OF BULK AT MOST 1048576: true; the input reads as it did. -/
def instWithinUptoRow : OpenClaim := { program := "ytopfaapcekiojaa", sum := "3a86a238496b9258eee9257354f3f4b2ac29ade383dadb4ace4f66925d3f2663", func := "cooper/cooperlaw04.InstWithin", spec := "instWithin", unfollowed := true, recurses := true, apart := false, narrowed := true }
def InstWithinUptoSaid : Prop := instWithinUptoRow.holds Try.pinned (OpenSpec.upto instWithinSpec)

/-- 'cooperlaw04.InstChecks', WHERE WHAT IT READS IS OF BULK AT MOST 1048576: true; the input reads as it did. -/
def instChecksUptoRow : OpenClaim := { program := "ytopfaapcekiojaa", sum := "3a86a238496b9258eee9257354f3f4b2ac29ade383dadb4ace4f66925d3f2663", func := "cooper/cooperlaw04.InstChecks", spec := "instChecks", unfollowed := true, recurses := true, apart := false, narrowed := true }
def InstChecksUptoSaid : Prop := instChecksUptoRow.holds Try.pinned (OpenSpec.upto instChecksSpec)

/-- 'cooperlaw04.InstFields', WHERE WHAT IT READS IS OF BULK AT MOST 1048576: true; the input reads as it did. -/
def instFieldsUptoRow : OpenClaim := { program := "ytopfaapcekiojaa", sum := "3a86a238496b9258eee9257354f3f4b2ac29ade383dadb4ace4f66925d3f2663", func := "cooper/cooperlaw04.InstFields", spec := "instFields", unfollowed := true, recurses := true, apart := false, narrowed := true }
def InstFieldsUptoSaid : Prop := instFieldsUptoRow.holds Try.pinned (OpenSpec.upto instFieldsSpec)

/-- 'cooperlaw04.InstOne', WHERE WHAT IT READS IS OF BULK AT MOST 1048576: true; the input reads as it did. -/
def instOneUptoRow : OpenClaim := { program := "ytopfaapcekiojaa", sum := "3a86a238496b9258eee9257354f3f4b2ac29ade383dadb4ace4f66925d3f2663", func := "cooper/cooperlaw04.InstOne", spec := "instOne", unfollowed := true, recurses := true, apart := false, narrowed := true }
def InstOneUptoSaid : Prop := instOneUptoRow.holds Try.pinned (OpenSpec.upto instOneSpec)

/-- 'cooperlaw04.InstFars', WHERE WHAT IT READS IS OF BULK AT MOST 1048576: true; the input reads as it did. -/
def instFarsUptoRow : OpenClaim := { program := "ytopfaapcekiojaa", sum := "3a86a238496b9258eee9257354f3f4b2ac29ade383dadb4ace4f66925d3f2663", func := "cooper/cooperlaw04.InstFars", spec := "instFars", unfollowed := true, recurses := true, apart := false, narrowed := true }
def InstFarsUptoSaid : Prop := instFarsUptoRow.holds Try.pinned (OpenSpec.upto instFarsSpec)

/-- 'cooperlaw04.InstFar', WHERE WHAT IT READS IS OF BULK AT MOST 1048576: true; the input reads as it did. -/
def instFarUptoRow : OpenClaim := { program := "ytopfaapcekiojaa", sum := "3a86a238496b9258eee9257354f3f4b2ac29ade383dadb4ace4f66925d3f2663", func := "cooper/cooperlaw04.InstFar", spec := "instFar", unfollowed := true, recurses := true, apart := false, narrowed := true }
def InstFarUptoSaid : Prop := instFarUptoRow.holds Try.pinned (OpenSpec.upto instFarSpec)

/-- 'cooperlaw06.DecUnlike', WHERE WHAT IT READS IS OF BULK AT MOST 1048576: true; the input reads as it did. -/
def decUnlikeUptoRow : OpenClaim := { program := "ytopfaapcekiojaa", sum := "3a86a238496b9258eee9257354f3f4b2ac29ade383dadb4ace4f66925d3f2663", func := "cooper/cooperlaw06.DecUnlike", spec := "decUnlike", unfollowed := true, recurses := true, apart := false, narrowed := true }
def DecUnlikeUptoSaid : Prop := decUnlikeUptoRow.holds Try.pinned (OpenSpec.upto decUnlikeSpec)

/-- 'cooperlaw05.EncOwn', WHERE WHAT IT READS IS OF BULK AT MOST 1048576: true; the input reads as it did. -/
def encOwnUptoRow : OpenClaim := { program := "ytopfaapcekiojaa", sum := "3a86a238496b9258eee9257354f3f4b2ac29ade383dadb4ace4f66925d3f2663", func := "cooper/cooperlaw05.EncOwn", spec := "encOwn", unfollowed := true, recurses := true, apart := false, narrowed := true }
def EncOwnUptoSaid : Prop := encOwnUptoRow.holds Try.pinned (OpenSpec.upto encOwnSpec)

/-- 'cooperlaw05.EncSets', WHERE WHAT IT READS IS OF BULK AT MOST 1048576: true; the input reads as it did. -/
def encSetsUptoRow : OpenClaim := { program := "ytopfaapcekiojaa", sum := "3a86a238496b9258eee9257354f3f4b2ac29ade383dadb4ace4f66925d3f2663", func := "cooper/cooperlaw05.EncSets", spec := "encSets", unfollowed := true, recurses := true, apart := false, narrowed := true }
def EncSetsUptoSaid : Prop := encSetsUptoRow.holds Try.pinned (OpenSpec.upto encSetsSpec)

end Rows
end Go.Proofs.Ytopfaapcekiojaa
