/-
  No cell of these rows narrows 'for every input' (looked for: loops, veiled, ifaces, maps, wideKeys, modest, calm, conditions, laid).
  DERIVED. THE GIVEN ROWS OF THIS SEAT. 5 by the template 'for every input the law returns true; each argument reads behind the call as it read before'; 0 by the template 'total and deterministic' (their statements: YtopfaapcekiojaaGreatTotals.lean).
  GIVEN WITH THE SEED: the statements are not yours to turn. If you find one false, say at which input.
  Laid BY PROGRAM, IN A SANDBOX (cutbox-rows.mjs): the forced cells as the released guide's own fill.sh prints them over the translation 71225077dd387d7e… (all of the seat's roots in one cut). By AI agents, Wed Nov 11 2026. No macro, syntax, notation, axiom, sorry.
-/
import Derived.Test.YtopfaapcekiojaaGreatChecked
import GoSem.Claim
import GoSem.ClaimJoined
import GoSem.ClaimMapViews
import Derived.JoinedTies
import Derived.KernelRfl
namespace Go.Proofs.YtopfaapcekiojaaGreat
/- THE CELL 'sum', in the pinned program and in every row, IS THE sha256 OF THE DUMP (.gsa) THAT YtopfaapcekiojaaGreatProg.lean LOADS. Nothing in Lean hashes anything: it is a label: what it is worth is what the hold of that sum in a sandbox is worth. -/
noncomputable def Tryz.pinned : Pinned := { name := "ytopfaapcekiojaagreat", sum := "71225077dd387d7e5ba15ce69595526c65e51e94d532cc96e3ca6b339ac3a06e", checked := Tryz.checked }
namespace Rows
def none {H : Type} : Left H := { results := [], args := [] }

/-- 'cooperlaw06.DecWords': WHATEVER THE INPUT: true; the input reads as it did. -/
def decWordsSpec : ChangeSpec := { name := "decWords", fn := fun _ => fun
  | [d] => { results := [.lit (.bool true)], args := [d] }
  | _ => none }
def decWordsRow : OpenClaim := { program := "ytopfaapcekiojaagreat", sum := "71225077dd387d7e5ba15ce69595526c65e51e94d532cc96e3ca6b339ac3a06e", func := "cooper/cooperlaw06.DecWords", spec := "decWords", unfollowed := true, recurses := true, apart := false }
def DecWordsSaid : Prop := decWordsRow.holds Tryz.pinned (OpenSpec.ofChange decWordsSpec)

/-- ITS FALSE NEIGHBOUR: 'it returns false'. Refute it at one input. -/
def decWordsWrong : ChangeSpec := { name := "decWords", fn := fun _ => fun
  | [d] => { results := [.lit (.bool false)], args := [d] }
  | _ => none }
def DecWordsWrongFalsely : Prop := decWordsRow.holds Tryz.pinned (OpenSpec.ofChange decWordsWrong)

/-- 'cooperlaw06.DecFixed': WHATEVER THE INPUT: true; the input reads as it did. -/
def decFixedSpec : ChangeSpec := { name := "decFixed", fn := fun _ => fun
  | [d1, d2] => { results := [.lit (.bool true)], args := [d1, d2] }
  | _ => none }
def decFixedRow : OpenClaim := { program := "ytopfaapcekiojaagreat", sum := "71225077dd387d7e5ba15ce69595526c65e51e94d532cc96e3ca6b339ac3a06e", func := "cooper/cooperlaw06.DecFixed", spec := "decFixed", unfollowed := true, recurses := true, apart := false }
def DecFixedSaid : Prop := decFixedRow.holds Tryz.pinned (OpenSpec.ofChange decFixedSpec)

/-- ITS FALSE NEIGHBOUR: 'it returns false'. Refute it at one input. -/
def decFixedWrong : ChangeSpec := { name := "decFixed", fn := fun _ => fun
  | [d1, d2] => { results := [.lit (.bool false)], args := [d1, d2] }
  | _ => none }
def DecFixedWrongFalsely : Prop := decFixedRow.holds Tryz.pinned (OpenSpec.ofChange decFixedWrong)

/-- 'cooperlaw06.DecBytes': WHATEVER THE INPUT: true; the input reads as it did. -/
def decBytesSpec : ChangeSpec := { name := "decBytes", fn := fun _ => fun
  | [d1, d2] => { results := [.lit (.bool true)], args := [d1, d2] }
  | _ => none }
def decBytesRow : OpenClaim := { program := "ytopfaapcekiojaagreat", sum := "71225077dd387d7e5ba15ce69595526c65e51e94d532cc96e3ca6b339ac3a06e", func := "cooper/cooperlaw06.DecBytes", spec := "decBytes", unfollowed := true, recurses := true, apart := false }
def DecBytesSaid : Prop := decBytesRow.holds Tryz.pinned (OpenSpec.ofChange decBytesSpec)

/-- ITS FALSE NEIGHBOUR: 'it returns false'. Refute it at one input. -/
def decBytesWrong : ChangeSpec := { name := "decBytes", fn := fun _ => fun
  | [d1, d2] => { results := [.lit (.bool false)], args := [d1, d2] }
  | _ => none }
def DecBytesWrongFalsely : Prop := decBytesRow.holds Tryz.pinned (OpenSpec.ofChange decBytesWrong)

/-- 'cooperlaw05.EncWords': WHATEVER THE INPUT: true; the input reads as it did. -/
def encWordsSpec : ChangeSpec := { name := "encWords", fn := fun _ => fun
  | [d1, d2] => { results := [.lit (.bool true)], args := [d1, d2] }
  | _ => none }
def encWordsRow : OpenClaim := { program := "ytopfaapcekiojaagreat", sum := "71225077dd387d7e5ba15ce69595526c65e51e94d532cc96e3ca6b339ac3a06e", func := "cooper/cooperlaw05.EncWords", spec := "encWords", unfollowed := true, recurses := true, apart := false }
def EncWordsSaid : Prop := encWordsRow.holds Tryz.pinned (OpenSpec.ofChange encWordsSpec)

/-- ITS FALSE NEIGHBOUR: 'it returns false'. Refute it at one input. -/
def encWordsWrong : ChangeSpec := { name := "encWords", fn := fun _ => fun
  | [d1, d2] => { results := [.lit (.bool false)], args := [d1, d2] }
  | _ => none }
def EncWordsWrongFalsely : Prop := encWordsRow.holds Tryz.pinned (OpenSpec.ofChange encWordsWrong)

/-- 'cooperlaw06.DecBack': WHATEVER THE INPUT: true; the input reads as it did. -/
def decBackSpec : ChangeSpec := { name := "decBack", fn := fun _ => fun
  | [d1, d2] => { results := [.lit (.bool true)], args := [d1, d2] }
  | _ => none }
def decBackRow : OpenClaim := { program := "ytopfaapcekiojaagreat", sum := "71225077dd387d7e5ba15ce69595526c65e51e94d532cc96e3ca6b339ac3a06e", func := "cooper/cooperlaw06.DecBack", spec := "decBack", unfollowed := true, recurses := true, apart := false }
def DecBackSaid : Prop := decBackRow.holds Tryz.pinned (OpenSpec.ofChange decBackSpec)

/-- ITS FALSE NEIGHBOUR: 'it returns false'. Refute it at one input. -/
def decBackWrong : ChangeSpec := { name := "decBack", fn := fun _ => fun
  | [d1, d2] => { results := [.lit (.bool false)], args := [d1, d2] }
  | _ => none }
def DecBackWrongFalsely : Prop := decBackRow.holds Tryz.pinned (OpenSpec.ofChange decBackWrong)

/- THE SECOND FORM. 'bulk': how many values and letters a reading holds, each counted each time it is reached (what is shared counts as often as it is met; a slice's spare places count too). A statement '..UptoSaid' is the law's where the arguments, and the package variables that the reading takes, are together of bulk at most 1048576: NARROWER than '..Said'. Prove '..Said' where nothing that the law and all that it calls make is longer than what came in: it says more and counts as full. Else prove '..UptoSaid'. A law counts once. -/
mutual
def uptoBulk {H : Type} : DataW H → Nat
  | .lit (.string bytes) => bytes.length + 1
  | .lit _ => 1
  | .nil => 1
  | .ptr d => uptoBulk d + 1
  | .slice elems spare => uptoBulkAll elems + uptoBulkAll spare + 1
  | .agg parts => uptoBulkAll parts + 1
  | .iface _ d => uptoBulk d + 1
  | .map entries => uptoBulkEntries entries + 1
  | .held _ => 1
def uptoBulkAll {H : Type} : List (DataW H) → Nat
  | [] => 0
  | d :: r => uptoBulk d + uptoBulkAll r
def uptoBulkEntries {H : Type} : List (Lit × DataW H) → Nat
  | [] => 0
  | x :: r => uptoBulkEntry x + uptoBulkEntries r
def uptoBulkEntry {H : Type} : Lit × DataW H → Nat
  | (.string bytes, d) => bytes.length + uptoBulk d + 1
  | (_, d) => uptoBulk d + 1
 end
def uptoSmall : (H : Type) → List (DataW H) → Bool := fun _ ds => decide (uptoBulkAll ds ≤ 1048576)
def OpenSpec.upto (s : _root_.Go.ChangeSpec) : _root_.Go.OpenSpec := { _root_.Go.OpenSpec.ofChange s with cond := some uptoSmall }

/-- 'cooperlaw06.DecWords', WHERE WHAT IT READS IS OF BULK AT MOST 1048576: true; the input reads as it did. -/
def decWordsUptoRow : OpenClaim := { program := "ytopfaapcekiojaagreat", sum := "71225077dd387d7e5ba15ce69595526c65e51e94d532cc96e3ca6b339ac3a06e", func := "cooper/cooperlaw06.DecWords", spec := "decWords", unfollowed := true, recurses := true, apart := false, narrowed := true }
def DecWordsUptoSaid : Prop := decWordsUptoRow.holds Tryz.pinned (OpenSpec.upto decWordsSpec)

/-- 'cooperlaw06.DecFixed', WHERE WHAT IT READS IS OF BULK AT MOST 1048576: true; the input reads as it did. -/
def decFixedUptoRow : OpenClaim := { program := "ytopfaapcekiojaagreat", sum := "71225077dd387d7e5ba15ce69595526c65e51e94d532cc96e3ca6b339ac3a06e", func := "cooper/cooperlaw06.DecFixed", spec := "decFixed", unfollowed := true, recurses := true, apart := false, narrowed := true }
def DecFixedUptoSaid : Prop := decFixedUptoRow.holds Tryz.pinned (OpenSpec.upto decFixedSpec)

/-- 'cooperlaw06.DecBytes', WHERE WHAT IT READS IS OF BULK AT MOST 1048576: true; the input reads as it did. -/
def decBytesUptoRow : OpenClaim := { program := "ytopfaapcekiojaagreat", sum := "71225077dd387d7e5ba15ce69595526c65e51e94d532cc96e3ca6b339ac3a06e", func := "cooper/cooperlaw06.DecBytes", spec := "decBytes", unfollowed := true, recurses := true, apart := false, narrowed := true }
def DecBytesUptoSaid : Prop := decBytesUptoRow.holds Tryz.pinned (OpenSpec.upto decBytesSpec)

/-- 'cooperlaw05.EncWords', WHERE WHAT IT READS IS OF BULK AT MOST 1048576: true; the input reads as it did. -/
def encWordsUptoRow : OpenClaim := { program := "ytopfaapcekiojaagreat", sum := "71225077dd387d7e5ba15ce69595526c65e51e94d532cc96e3ca6b339ac3a06e", func := "cooper/cooperlaw05.EncWords", spec := "encWords", unfollowed := true, recurses := true, apart := false, narrowed := true }
def EncWordsUptoSaid : Prop := encWordsUptoRow.holds Tryz.pinned (OpenSpec.upto encWordsSpec)

/-- 'cooperlaw06.DecBack', WHERE WHAT IT READS IS OF BULK AT MOST 1048576: true; the input reads as it did. -/
def decBackUptoRow : OpenClaim := { program := "ytopfaapcekiojaagreat", sum := "71225077dd387d7e5ba15ce69595526c65e51e94d532cc96e3ca6b339ac3a06e", func := "cooper/cooperlaw06.DecBack", spec := "decBack", unfollowed := true, recurses := true, apart := false, narrowed := true }
def DecBackUptoSaid : Prop := decBackUptoRow.holds Tryz.pinned (OpenSpec.upto decBackSpec)

end Rows
end Go.Proofs.YtopfaapcekiojaaGreat
