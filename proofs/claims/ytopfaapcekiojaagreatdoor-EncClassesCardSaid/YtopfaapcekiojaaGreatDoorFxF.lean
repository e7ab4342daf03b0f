/- EncClasses: what its run is given. -/
import Derived.Test.YtopfaapcekiojaaGreatDoorFxA
import Derived.Test.YtopfaapcekiojaaGreatDoorRunW
namespace Go.Proofs.YtopfaapcekiojaaGreatDoor.lawEncClasses
open Go Go.RowKit Go.Proofs.YtopfaapcekiojaaGreatDoor Sym
set_option linter.unusedVariables false

/-- TrailingZeros64 of a known number -/
def tzS (_ : PC) (_ : List (Nat × Blk)) (args : List SV) : Option SV := match args with
  | [.p (.c (.int .u64 (.lit (.ofNat n))))] => match Nat.blt n 18446744073709551616 with
    | true => some (.p (.c (.int .i64 (.lit (.ofNat (Lib.ctz 64 n))))))
    | false => none
  | _ => none
theorem tz_s {cx : Ctx} {ρ : Env} (hP : cx.P = Tryz.prog) (hT : Tab ρ.w0) (hg : 0 < ρ.B) : SumOk cx ρ 71 tzS := by
  intro pc H args u hu ok L β vals w n hW ha
  unfold tzS at hu
  split at hu
  · rename_i k
    split at hu
    · rename_i hk
      cases hu
      cases ha
      refine ⟨_, rfl, ?_⟩
      rw [hP]
      exact of_same (tz_any k (Nat.lt_of_not_le fun h => by have := Nat.le_of_ble_eq_true hk; omega) w (hT.below hW.below hg))
    · cases hu
  · cases hu
/-- a bit of a known number -/
def bitS (_ : PC) (_ : List (Nat × Blk)) (args : List SV) : Option SV := match args with
  | [.p (.c (.int .u64 (.lit (.ofNat v)))), .p (.c (.int .i64 (.lit (.ofNat n))))] => match Nat.blt v 18446744073709551616 && Nat.ble n 63 with
    | true => some (.p (.c (.int .u64 (.lit (.ofNat (Nat.mod (Nat.div v (Nat.pow 2 n)) 2))))))
    | false => none
  | _ => none
theorem bit_s {cx : Ctx} {ρ : Env} (hP : cx.P = Tryz.prog) : SumOk cx ρ 47 bitS := by
  intro pc H args u hu ok L β vals w n hW ha
  unfold bitS at hu
  split at hu
  · rename_i v k
    split at hu
    · rename_i hk
      simp only [Bool.and_eq_true] at hk
      cases hu
      cases ha
      have h1 : v < 18446744073709551616 := Nat.lt_of_not_le fun h => by have := Nat.le_of_ble_eq_true hk.1; omega
      have h2 := Nat.le_of_ble_eq_true hk.2
      refine ⟨_, rfl, ?_⟩
      rw [hP]
      exact bit_any (.ofNat v) (.ofNat k) w ⟨Int.natCast_nonneg _, by show ((v : Nat) : Int) < _; omega⟩ (i64_nat (by omega)) (by show ((k : Nat) : Int) ≤ 63; omega)
    · cases hu
  · cases hu
def letE (w a : Int) : Nat → Int
  | 0 => w | 1 => a | _ => 0
def opY (op : Int) : Ins := { y0 with op := op }
def wS : SV := .p (.c (.int .u32 (.var 8)))
def aS : SV := .p (.c (.int .i64 (.var 9)))
noncomputable def clSums (k b m : Nat) : Sums := (4, patS [] (.p (.c (.bool .tt)))) :: (5, patS [.p (.c (.int .i64 (.lit (.ofNat k))))] (baseV b m)) :: (6, patS [.p (.c (.int .i64 (.lit (.ofNat k))))] (baseV b m)) :: (71, tzS) :: (47, bitS) :: bitSums
noncomputable def noSums : Sums := (4, patS [] (.p (.c (.bool .tt)))) :: bitSums
def bdC (lo hi : Int) : List (Nat × Int × Int) := (7, lo, hi) :: (8, 0, 4294967295) :: (9, -9223372036854775808, 9223372036854775807) :: []
noncomputable def clCx (k : Nat) : Ctx := { P := Tryz.prog, bd := bdC k k, fb := [], sums := clSums k (fixB k) (fixM k) }
noncomputable def noCx (lo hi : Int) : Ctx := { P := Tryz.prog, bd := bdC lo hi, fb := [], sums := noSums }
noncomputable def runB (k : Nat) : Bool := allTrue (runF (clCx k) 300 3 [.p (.c (.int .i64 (.lit (.ofNat k)))), wS, aS] [] 0)
noncomputable def noB (lo hi : Int) (op : SE) : Bool := allTrue (runF (noCx lo hi) 300 3 [.p (.c (.int .i64 op)), wS, aS] [] 0)
end Go.Proofs.YtopfaapcekiojaaGreatDoor.lawEncClasses
