/-
  No cell of these rows narrows 'for every input' (looked for: loops, veiled, ifaces, maps, wideKeys, modest, calm, conditions, laid).
  DERIVED. THE GIVEN ROWS OF THIS SEAT. 11 by the template 'for every input the law returns true; each argument reads behind the call as it read before'; 0 by the template 'total and deterministic' (their statements: YtjojflodhghdbaaTotals.lean).
  GIVEN WITH THE SEED: the statements are not yours to turn. If you find one false, say at which input.
  Laid BY PROGRAM, IN A SANDBOX (cutbox-rows.mjs): the forced cells as the released guide's own fill.sh prints them over the translation 556bdf1c4d1c69c4… (all of the seat's roots in one cut). By AI agents, Wed Nov 11 2026. No macro, syntax, notation, axiom, sorry.
-/
import Derived.Test.YtjojflodhghdbaaChecked
import GoSem.Claim
import GoSem.ClaimJoined
import GoSem.ClaimMapViews
import Derived.JoinedTies
import Derived.KernelRfl
namespace Go.Proofs.Ytjojflodhghdbaa
/- THE CELL 'sum', in the pinned program and in every row, IS THE sha256 OF THE DUMP (.gsa) THAT YtjojflodhghdbaaProg.lean LOADS. Nothing in Lean hashes anything: it is a label: what it is worth is what the hold of that sum in a sandbox is worth. -/
noncomputable def Try.pinned : Pinned := { name := "ytjojflodhghdbaa", sum := "556bdf1c4d1c69c498777a8ba543f03e95526376ef89112f83c655280ae708c1", checked := Try.checked }
namespace Rows
def none {H : Type} : Left H := { results := [], args := [] }

/-- 'cooperlaw01.BitsFields': WHATEVER THE INPUT: true; the input reads as it did. -/
def bitsFieldsSpec : ChangeSpec := { name := "bitsFields", fn := fun _ => fun
  | [d1, d2, d3] => { results := [.lit (.bool true)], args := [d1, d2, d3] }
  | _ => none }
def bitsFieldsRow : OpenClaim := { program := "ytjojflodhghdbaa", sum := "556bdf1c4d1c69c498777a8ba543f03e95526376ef89112f83c655280ae708c1", func := "cooper/cooperlaw01.BitsFields", spec := "bitsFields", apart := false }
def BitsFieldsSaid : Prop := bitsFieldsRow.holds Try.pinned (OpenSpec.ofChange bitsFieldsSpec)

/-- ITS FALSE NEIGHBOUR: 'it returns false'. Refute it at one input. -/
def bitsFieldsWrong : ChangeSpec := { name := "bitsFields", fn := fun _ => fun
  | [d1, d2, d3] => { results := [.lit (.bool false)], args := [d1, d2, d3] }
  | _ => none }
def BitsFieldsWrongFalsely : Prop := bitsFieldsRow.holds Try.pinned (OpenSpec.ofChange bitsFieldsWrong)

/-- 'cooperlaw01.BitsNumbers': WHATEVER THE INPUT: true; the input reads as it did. -/
def bitsNumbersSpec : ChangeSpec := { name := "bitsNumbers", fn := fun _ => fun
  | [d1, d2, d3] => { results := [.lit (.bool true)], args := [d1, d2, d3] }
  | _ => none }
def bitsNumbersRow : OpenClaim := { program := "ytjojflodhghdbaa", sum := "556bdf1c4d1c69c498777a8ba543f03e95526376ef89112f83c655280ae708c1", func := "cooper/cooperlaw01.BitsNumbers", spec := "bitsNumbers", apart := false }
def BitsNumbersSaid : Prop := bitsNumbersRow.holds Try.pinned (OpenSpec.ofChange bitsNumbersSpec)

/-- ITS FALSE NEIGHBOUR: 'it returns false'. Refute it at one input. -/
def bitsNumbersWrong : ChangeSpec := { name := "bitsNumbers", fn := fun _ => fun
  | [d1, d2, d3] => { results := [.lit (.bool false)], args := [d1, d2, d3] }
  | _ => none }
def BitsNumbersWrongFalsely : Prop := bitsNumbersRow.holds Try.pinned (OpenSpec.ofChange bitsNumbersWrong)

/-- 'cooperlaw01.BitsApart': WHATEVER THE INPUT: true; the input reads as it did. -/
def bitsApartSpec : ChangeSpec := { name := "bitsApart", fn := fun _ => fun
  | [d1, d2, d3] => { results := [.lit (.bool true)], args := [d1, d2, d3] }
  | _ => none }
def bitsApartRow : OpenClaim := { program := "ytjojflodhghdbaa", sum := "556bdf1c4d1c69c498777a8ba543f03e95526376ef89112f83c655280ae708c1", func := "cooper/cooperlaw01.BitsApart", spec := "bitsApart", apart := false }
def BitsApartSaid : Prop := bitsApartRow.holds Try.pinned (OpenSpec.ofChange bitsApartSpec)

/-- ITS FALSE NEIGHBOUR: 'it returns false'. Refute it at one input. -/
def bitsApartWrong : ChangeSpec := { name := "bitsApart", fn := fun _ => fun
  | [d1, d2, d3] => { results := [.lit (.bool false)], args := [d1, d2, d3] }
  | _ => none }
def BitsApartWrongFalsely : Prop := bitsApartRow.holds Try.pinned (OpenSpec.ofChange bitsApartWrong)

/-- 'cooperlaw01.BitsPacks': WHATEVER THE INPUT: true; the input reads as it did. -/
def bitsPacksSpec : ChangeSpec := { name := "bitsPacks", fn := fun _ => fun
  | [d1, d2, d3] => { results := [.lit (.bool true)], args := [d1, d2, d3] }
  | _ => none }
def bitsPacksRow : OpenClaim := { program := "ytjojflodhghdbaa", sum := "556bdf1c4d1c69c498777a8ba543f03e95526376ef89112f83c655280ae708c1", func := "cooper/cooperlaw01.BitsPacks", spec := "bitsPacks", apart := false }
def BitsPacksSaid : Prop := bitsPacksRow.holds Try.pinned (OpenSpec.ofChange bitsPacksSpec)

/-- ITS FALSE NEIGHBOUR: 'it returns false'. Refute it at one input. -/
def bitsPacksWrong : ChangeSpec := { name := "bitsPacks", fn := fun _ => fun
  | [d1, d2, d3] => { results := [.lit (.bool false)], args := [d1, d2, d3] }
  | _ => none }
def BitsPacksWrongFalsely : Prop := bitsPacksRow.holds Try.pinned (OpenSpec.ofChange bitsPacksWrong)

/-- 'cooperlaw01.BitsTurns': WHATEVER THE INPUT: true; the input reads as it did. -/
def bitsTurnsSpec : ChangeSpec := { name := "bitsTurns", fn := fun _ => fun
  | [d1, d2, d3] => { results := [.lit (.bool true)], args := [d1, d2, d3] }
  | _ => none }
def bitsTurnsRow : OpenClaim := { program := "ytjojflodhghdbaa", sum := "556bdf1c4d1c69c498777a8ba543f03e95526376ef89112f83c655280ae708c1", func := "cooper/cooperlaw01.BitsTurns", spec := "bitsTurns", apart := false }
def BitsTurnsSaid : Prop := bitsTurnsRow.holds Try.pinned (OpenSpec.ofChange bitsTurnsSpec)

/-- ITS FALSE NEIGHBOUR: 'it returns false'. Refute it at one input. -/
def bitsTurnsWrong : ChangeSpec := { name := "bitsTurns", fn := fun _ => fun
  | [d1, d2, d3] => { results := [.lit (.bool false)], args := [d1, d2, d3] }
  | _ => none }
def BitsTurnsWrongFalsely : Prop := bitsTurnsRow.holds Try.pinned (OpenSpec.ofChange bitsTurnsWrong)

/-- 'cooperlaw01.BitsBack': WHATEVER THE INPUT: true; the input reads as it did. -/
def bitsBackSpec : ChangeSpec := { name := "bitsBack", fn := fun _ => fun
  | [d1, d2, d3] => { results := [.lit (.bool true)], args := [d1, d2, d3] }
  | _ => none }
def bitsBackRow : OpenClaim := { program := "ytjojflodhghdbaa", sum := "556bdf1c4d1c69c498777a8ba543f03e95526376ef89112f83c655280ae708c1", func := "cooper/cooperlaw01.BitsBack", spec := "bitsBack", unfollowed := true, recurses := true, apart := false }
def BitsBackSaid : Prop := bitsBackRow.holds Try.pinned (OpenSpec.ofChange bitsBackSpec)

/-- ITS FALSE NEIGHBOUR: 'it returns false'. Refute it at one input. -/
def bitsBackWrong : ChangeSpec := { name := "bitsBack", fn := fun _ => fun
  | [d1, d2, d3] => { results := [.lit (.bool false)], args := [d1, d2, d3] }
  | _ => none }
def BitsBackWrongFalsely : Prop := bitsBackRow.holds Try.pinned (OpenSpec.ofChange bitsBackWrong)

/-- 'cooperlaw02.LogimmDecodes': WHATEVER THE INPUT: true; the input reads as it did. -/
def logimmDecodesSpec : ChangeSpec := { name := "logimmDecodes", fn := fun _ => fun
  | [d1, d2, d3, d4, d5] => { results := [.lit (.bool true)], args := [d1, d2, d3, d4, d5] }
  | _ => none }
def logimmDecodesRow : OpenClaim := { program := "ytjojflodhghdbaa", sum := "556bdf1c4d1c69c498777a8ba543f03e95526376ef89112f83c655280ae708c1", func := "cooper/cooperlaw02.LogimmDecodes", spec := "logimmDecodes", unfollowed := true, recurses := true, apart := false }
def LogimmDecodesSaid : Prop := logimmDecodesRow.holds Try.pinned (OpenSpec.ofChange logimmDecodesSpec)

/-- ITS FALSE NEIGHBOUR: 'it returns false'. Refute it at one input. -/
def logimmDecodesWrong : ChangeSpec := { name := "logimmDecodes", fn := fun _ => fun
  | [d1, d2, d3, d4, d5] => { results := [.lit (.bool false)], args := [d1, d2, d3, d4, d5] }
  | _ => none }
def LogimmDecodesWrongFalsely : Prop := logimmDecodesRow.holds Try.pinned (OpenSpec.ofChange logimmDecodesWrong)

/-- 'cooperlaw02.LogimmEncodes': WHATEVER THE INPUT: true; the input reads as it did. -/
def logimmEncodesSpec : ChangeSpec := { name := "logimmEncodes", fn := fun _ => fun
  | [d1, d2] => { results := [.lit (.bool true)], args := [d1, d2] }
  | _ => none }
def logimmEncodesRow : OpenClaim := { program := "ytjojflodhghdbaa", sum := "556bdf1c4d1c69c498777a8ba543f03e95526376ef89112f83c655280ae708c1", func := "cooper/cooperlaw02.LogimmEncodes", spec := "logimmEncodes", unfollowed := true, recurses := true, apart := false }
def LogimmEncodesSaid : Prop := logimmEncodesRow.holds Try.pinned (OpenSpec.ofChange logimmEncodesSpec)

/-- ITS FALSE NEIGHBOUR: 'it returns false'. Refute it at one input. -/
def logimmEncodesWrong : ChangeSpec := { name := "logimmEncodes", fn := fun _ => fun
  | [d1, d2] => { results := [.lit (.bool false)], args := [d1, d2] }
  | _ => none }
def LogimmEncodesWrongFalsely : Prop := logimmEncodesRow.holds Try.pinned (OpenSpec.ofChange logimmEncodesWrong)

/-- 'cooperlaw02.LogimmOver': WHATEVER THE INPUT: true; the input reads as it did. -/
def logimmOverSpec : ChangeSpec := { name := "logimmOver", fn := fun _ => fun
  | [d1, d2] => { results := [.lit (.bool true)], args := [d1, d2] }
  | _ => none }
def logimmOverRow : OpenClaim := { program := "ytjojflodhghdbaa", sum := "556bdf1c4d1c69c498777a8ba543f03e95526376ef89112f83c655280ae708c1", func := "cooper/cooperlaw02.LogimmOver", spec := "logimmOver", unfollowed := true, recurses := true, apart := false }
def LogimmOverSaid : Prop := logimmOverRow.holds Try.pinned (OpenSpec.ofChange logimmOverSpec)

/-- ITS FALSE NEIGHBOUR: 'it returns false'. Refute it at one input. -/
def logimmOverWrong : ChangeSpec := { name := "logimmOver", fn := fun _ => fun
  | [d1, d2] => { results := [.lit (.bool false)], args := [d1, d2] }
  | _ => none }
def LogimmOverWrongFalsely : Prop := logimmOverRow.holds Try.pinned (OpenSpec.ofChange logimmOverWrong)

/-- 'cooperlaw02.LogimmBack': WHATEVER THE INPUT: true; the input reads as it did. -/
def logimmBackSpec : ChangeSpec := { name := "logimmBack", fn := fun _ => fun
  | [d1, d2, d3, d4, d5, d6] => { results := [.lit (.bool true)], args := [d1, d2, d3, d4, d5, d6] }
  | _ => none }
def logimmBackRow : OpenClaim := { program := "ytjojflodhghdbaa", sum := "556bdf1c4d1c69c498777a8ba543f03e95526376ef89112f83c655280ae708c1", func := "cooper/cooperlaw02.LogimmBack", spec := "logimmBack", unfollowed := true, recurses := true, apart := false }
def LogimmBackSaid : Prop := logimmBackRow.holds Try.pinned (OpenSpec.ofChange logimmBackSpec)

/-- ITS FALSE NEIGHBOUR: 'it returns false'. Refute it at one input. -/
def logimmBackWrong : ChangeSpec := { name := "logimmBack", fn := fun _ => fun
  | [d1, d2, d3, d4, d5, d6] => { results := [.lit (.bool false)], args := [d1, d2, d3, d4, d5, d6] }
  | _ => none }
def LogimmBackWrongFalsely : Prop := logimmBackRow.holds Try.pinned (OpenSpec.ofChange logimmBackWrong)

/-- 'cooperlaw02.LogimmAll': WHATEVER THE INPUT: true; the input reads as it did. -/
def logimmAllSpec : ChangeSpec := { name := "logimmAll", fn := fun _ => fun
  | [d1, d2] => { results := [.lit (.bool true)], args := [d1, d2] }
  | _ => none }
def logimmAllRow : OpenClaim := { program := "ytjojflodhghdbaa", sum := "556bdf1c4d1c69c498777a8ba543f03e95526376ef89112f83c655280ae708c1", func := "cooper/cooperlaw02.LogimmAll", spec := "logimmAll", unfollowed := true, recurses := true, apart := false }
def LogimmAllSaid : Prop := logimmAllRow.holds Try.pinned (OpenSpec.ofChange logimmAllSpec)

/-- ITS FALSE NEIGHBOUR: 'it returns false'. Refute it at one input. -/
def logimmAllWrong : ChangeSpec := { name := "logimmAll", fn := fun _ => fun
  | [d1, d2] => { results := [.lit (.bool false)], args := [d1, d2] }
  | _ => none }
def LogimmAllWrongFalsely : Prop := logimmAllRow.holds Try.pinned (OpenSpec.ofChange logimmAllWrong)

/- THE SECOND FORM. 'bulk': how many values and letters a reading holds, each counted each time it is reached (what is shared counts as often as it is met; a slice's spare places count too). A statement '..UptoSaid' is the law's where the arguments, and the package variables that the reading takes, are together of bulk at most 1048576: NARROWER than '..Said'. Prove '..Said' where nothing that the law and all that it calls make is longer than what came in: it says more and counts as full. Else prove '..UptoSaid'. A law counts once. -/
mutual
def uptoBulk {H : Type} : DataW H → Nat
  | .lit (.string bytes) => bytes.length + 1
  | .lit _ => 1
  | .nil => 1
  | .ptr d => uptoBulk d + 1
  | .slice elems spare => uptoBulkAll elems + uptoBulkAll spare + 1
  | .agg parts => uptoBulkAll parts + 1
  | .iface _ d => uptoBulk d + 1
  | .map entries => uptoBulkEntries entries + 1
  | .held _ => 1
def uptoBulkAll {H : Type} : List (DataW H) → Nat
  | [] => 0
  | d :: r => uptoBulk d + uptoBulkAll r
def uptoBulkEntries {H : Type} : List (Lit × DataW H) → Nat
  | [] => 0
  | x :: r => uptoBulkEntry x + uptoBulkEntries r
def uptoBulkEntry {H : Type} : Lit × DataW H → Nat
  | (.string bytes, d) => bytes.length + uptoBulk d + 1
  | (_, d) => uptoBulk d + 1
 end
def uptoSmall : (H : Type) → List (DataW H) → Bool := fun _ ds => decide (uptoBulkAll ds ≤ 1048576)
def OpenSpec.upto (s : _root_.Go.ChangeSpec) : _root_.Go.OpenSpec := { _root_.Go.OpenSpec.ofChange s with cond := some uptoSmall }

/-- 'cooperlaw01.BitsFields', WHERE WHAT IT READS IS OF BULK AT MOST 1048576: true; the input reads as it did. -/
def bitsFieldsUptoRow : OpenClaim := { program := "ytjojflodhghdbaa", sum := "556bdf1c4d1c69c498777a8ba543f03e95526376ef89112f83c655280ae708c1", func := "cooper/cooperlaw01.BitsFields", spec := "bitsFields", apart := false, narrowed := true }
def BitsFieldsUptoSaid : Prop := bitsFieldsUptoRow.holds Try.pinned (OpenSpec.upto bitsFieldsSpec)

/-- 'cooperlaw01.BitsNumbers', WHERE WHAT IT READS IS OF BULK AT MOST 1048576: true; the input reads as it did. -/
def bitsNumbersUptoRow : OpenClaim := { program := "ytjojflodhghdbaa", sum := "556bdf1c4d1c69c498777a8ba543f03e95526376ef89112f83c655280ae708c1", func := "cooper/cooperlaw01.BitsNumbers", spec := "bitsNumbers", apart := false, narrowed := true }
def BitsNumbersUptoSaid : Prop := bitsNumbersUptoRow.holds Try.pinned (OpenSpec.upto bitsNumbersSpec)

/-- 'cooperlaw01.BitsApart', WHERE WHAT IT READS IS OF BULK AT MOST 1048576: true; the input reads as it did. -/
def bitsApartUptoRow : OpenClaim := { program := "ytjojflodhghdbaa", sum := "556bdf1c4d1c69c498777a8ba543f03e95526376ef89112f83c655280ae708c1", func := "cooper/cooperlaw01.BitsApart", spec := "bitsApart", apart := false, narrowed := true }
def BitsApartUptoSaid : Prop := bitsApartUptoRow.holds Try.pinned (OpenSpec.upto bitsApartSpec)

/-- 'cooperlaw01.BitsPacks', WHERE WHAT IT READS IS OF BULK AT MOST 1048576: true; the input reads as it did. -/
def bitsPacksUptoRow : OpenClaim := { program := "ytjojflodhghdbaa", sum := "556bdf1c4d1c69c498777a8ba543f03e95526376ef89112f83c655280ae708c1", func := "cooper/cooperlaw01.BitsPacks", spec := "bitsPacks", apart := false, narrowed := true }
def BitsPacksUptoSaid : Prop := bitsPacksUptoRow.holds Try.pinned (OpenSpec.upto bitsPacksSpec)

/-- 'cooperlaw01.BitsTurns', WHERE WHAT IT READS IS OF BULK AT MOST 1048576: true; the input reads as it did. -/
def bitsTurnsUptoRow : OpenClaim := { program := "ytjojflodhghdbaa", sum := "556bdf1c4d1c69c498777a8ba543f03e95526376ef89112f83c655280ae708c1", func := "cooper/cooperlaw01.BitsTurns", spec := "bitsTurns", apart := false, narrowed := true }
def BitsTurnsUptoSaid : Prop := bitsTurnsUptoRow.holds Try.pinned (OpenSpec.upto bitsTurnsSpec)

/-- 'cooperlaw01.BitsBack', WHERE WHAT IT READS IS OF BULK AT MOST 1048576: true; the input reads as it did. -/
def bitsBackUptoRow : OpenClaim := { program := "ytjojflodhghdbaa", sum := "556bdf1c4d1c69c498777a8ba543f03e95526376ef89112f83c655280ae708c1", func := "cooper/cooperlaw01.BitsBack", spec := "bitsBack", unfollowed := true, recurses := true, apart := false, narrowed := true }
def BitsBackUptoSaid : Prop := bitsBackUptoRow.holds Try.pinned (OpenSpec.upto bitsBackSpec)

/-- 'cooperlaw02.LogimmDecodes', WHERE WHAT IT READS IS OF BULK AT MOST 1048576: true; the input reads as it did. -/
def logimmDecodesUptoRow : OpenClaim := { program := "ytjojflodhghdbaa", sum := "556bdf1c4d1c69c498777a8ba543f03e95526376ef89112f83c655280ae708c1", func := "cooper/cooperlaw02.LogimmDecodes", spec := "logimmDecodes", unfollowed := true, recurses := true, apart := false, narrowed := true }
def LogimmDecodesUptoSaid : Prop := logimmDecodesUptoRow.holds Try.pinned (OpenSpec.upto logimmDecodesSpec)

/-- 'cooperlaw02.LogimmEncodes', WHERE WHAT IT READS IS OF BULK AT MOST 1048576: true; the input reads as it did. -/
def logimmEncodesUptoRow : OpenClaim := { program := "ytjojflodhghdbaa", sum := "556bdf1c4d1c69c498777a8ba543f03e95526376ef89112f83c655280ae708c1", func := "cooper/cooperlaw02.LogimmEncodes", spec := "logimmEncodes", unfollowed := true, recurses := true, apart := false, narrowed := true }
def LogimmEncodesUptoSaid : Prop := logimmEncodesUptoRow.holds Try.pinned (OpenSpec.upto logimmEncodesSpec)

/-- 'cooperlaw02.LogimmOver', WHERE WHAT IT READS IS OF BULK AT MOST 1048576: true; the input reads as it did. -/
def logimmOverUptoRow : OpenClaim := { program := "ytjojflodhghdbaa", sum := "556bdf1c4d1c69c498777a8ba543f03e95526376ef89112f83c655280ae708c1", func := "cooper/cooperlaw02.LogimmOver", spec := "logimmOver", unfollowed := true, recurses := true, apart := false, narrowed := true }
def LogimmOverUptoSaid : Prop := logimmOverUptoRow.holds Try.pinned (OpenSpec.upto logimmOverSpec)

/-- 'cooperlaw02.LogimmBack', WHERE WHAT IT READS IS OF BULK AT MOST 1048576: true; the input reads as it did. -/
def logimmBackUptoRow : OpenClaim := { program := "ytjojflodhghdbaa", sum := "556bdf1c4d1c69c498777a8ba543f03e95526376ef89112f83c655280ae708c1", func := "cooper/cooperlaw02.LogimmBack", spec := "logimmBack", unfollowed := true, recurses := true, apart := false, narrowed := true }
def LogimmBackUptoSaid : Prop := logimmBackUptoRow.holds Try.pinned (OpenSpec.upto logimmBackSpec)

/-- 'cooperlaw02.LogimmAll', WHERE WHAT IT READS IS OF BULK AT MOST 1048576: true; the input reads as it did. -/
def logimmAllUptoRow : OpenClaim := { program := "ytjojflodhghdbaa", sum := "556bdf1c4d1c69c498777a8ba543f03e95526376ef89112f83c655280ae708c1", func := "cooper/cooperlaw02.LogimmAll", spec := "logimmAll", unfollowed := true, recurses := true, apart := false, narrowed := true }
def LogimmAllUptoSaid : Prop := logimmAllUptoRow.holds Try.pinned (OpenSpec.upto logimmAllSpec)

end Rows
end Go.Proofs.Ytjojflodhghdbaa
