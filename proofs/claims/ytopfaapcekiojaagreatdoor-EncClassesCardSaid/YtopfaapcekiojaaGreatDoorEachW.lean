/- The contracts of each (a word's bytes, told by an iterator), Bytes and Word. -/
import Derived.Test.YtopfaapcekiojaaGreatDoorRefW2
import Derived.RangeFuncNested
import Derived.RangeFuncBound
import Derived.RangeFuncCalls
import Derived.RangeFuncLeaves
import Derived.Shelf.Abstract
import Derived.Shelf.RegionOpen
import Derived.OwnWalkIn
import Derived.TacticsInMore
import Derived.LoopNIn
import Derived.LoopIn
import Derived.Outline
namespace Go.Proofs.YtopfaapcekiojaaGreatDoor
open Go.RowKit Go.Sort Go.Shelf
attribute [local go_sem] Oper.semAt_some
set_option linter.unusedVariables false

/-- a word's byte -/
def byteI (x : Int) : Nat → Int
  | 0 => x % 256
  | 1 => x / 256 % 256
  | 2 => x / 65536 % 256
  | _ => x / 16777216 % 256
/-- what is told: a number from 0 to 3, and a byte -/
def EachX : Type := { p : Int × Int // (0 ≤ p.1 ∧ p.1 < 4) ∧ 0 ≤ p.2 ∧ p.2 < 256 }
def eachEnc (p : EachX) : Array Value := #[.int .i64 p.1.1, .int .u8 p.1.2]
theorem byteI_bd (x : Int) (j : Nat) : 0 ≤ byteI x j ∧ byteI x j < 256 := by unfold byteI; split <;> omega
def eachAt (x : Int) (j : Nat) (h : j < 4) : EachX := ⟨((j : Int), byteI x j), ⟨by omega, by omega⟩, (byteI_bd x j).1, (byteI_bd x j).2⟩
def eachL (x : Int) : List EachX := [eachAt x 0 (by decide), eachAt x 1 (by decide), eachAt x 2 (by decide), eachAt x 3 (by decide)]

/-- what lies at a place when some bytes have been told -/
def setAll (pre : List EachX) (j : Nat) : Int := pre.foldl (fun a p => if p.1.1.toNat = j then p.1.2 else a) 0
theorem setAll_snoc (pre : List EachX) (p : EachX) (j : Nat) : setAll (pre ++ [p]) j = if p.1.1.toNat = j then p.1.2 else setAll pre j := by simp [setAll]
theorem setAll_all (x : Int) (j : Nat) (h : j < 4) : setAll (eachL x) j = byteI x j := by
  have : j = 0 ∨ j = 1 ∨ j = 2 ∨ j = 3 := by omega
  rcases this with rfl | rfl | rfl | rfl <;> rfl
/-- four bytes in a block of the call's own -/
def Four (W : World) (g : Nat) (f : Nat → Int) : Prop := ∀ j, j < 4 → W.cell? ⟨g, j, none⟩ = some (.int .u8 (f j)) ∧ W.frozen? ⟨g, j, none⟩ = false
/-- Bytes: a new slice of the word's four bytes -/
def BytesAt (x : Int) (w : World) (e : Ending) (w' : World) : Prop := e = .returned (.slice (some ⟨w.heap.size, 0, none⟩) 4 4) ∧ Four w' w.heap.size (byteI x) ∧ w.heap.size < w'.heap.size ∧ Below w.heap.size w w'
end Go.Proofs.YtopfaapcekiojaaGreatDoor
