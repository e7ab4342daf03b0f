/- The contracts of the bits functions, as the executor uses them. -/
import Derived.Test.YtopfaapcekiojaaGreatInsF
import Derived.Test.YtopfaapcekiojaaGreatRefW2
import Derived.Test.YtopfaapcekiojaaGreatSymJ
import Derived.Test.YtopfaapcekiojaaGreatInsA
namespace Go.Proofs.YtopfaapcekiojaaGreat.Sym
open Go Go.RowKit Go.Proofs.YtopfaapcekiojaaGreat
noncomputable section
set_option linter.unusedVariables false

def putS32 (pc : PC) (_ : List (Nat × Blk)) (args : List SV) : Option SV := match args with
  | [.p (.c (.int .u32 w)), .p (.agg [.int .i64 (.lit (.ofNat l)), .int .i64 (.lit (.ofNat n))]), .p (.c (.int .u32 v))] => match Nat.ble 1 n && (Nat.ble (l + n) 32 && (low (bnd pc v) n && low (bnd pc w) 32)) with
    | true => some (.tup [.c (.int .u32 (mkCat pc l (mkCat pc n (mkBits pc (l + n) (32 - (l + n)) w) v) (mkBits pc 0 l w))), .c (.int .i64 (.lit 0))])
    | false => none
  | _ => none
def getS32 (pc : PC) (_ : List (Nat × Blk)) (args : List SV) : Option SV := match args with
  | [.p (.c (.int .u32 w)), .p (.agg [.int .i64 (.lit (.ofNat l)), .int .i64 (.lit (.ofNat n))])] => match Nat.ble 1 n && (Nat.ble (l + n) 32 && low (bnd pc w) 32) with
    | true => some (.tup [.c (.int .u32 (mkBits pc l n w)), .c (.int .i64 (.lit 0))])
    | false => none
  | _ => none
def signS (pc : PC) (_ : List (Nat × Blk)) (args : List SV) : Option SV := match args with
  | [.p (.c (.int .u64 v)), .p (.c (.int .i64 (.lit (.ofNat n))))] => match Nat.ble 1 n && (Nat.ble n 64 && low (bnd pc v) 64) with
    | true => some (.tup [.c (.int .i64 (mkSext pc n v)), .c (.int .i64 (.lit 0))])
    | false => none
  | _ => none
def fits64S (pc : PC) (_ : List (Nat × Blk)) (args : List SV) : Option SV := match args with
  | [.p (.c (.int .i64 v)), .p (.c (.int .i64 (.lit (.ofNat n)))), .p (.c (.bool .tt))] => match Nat.ble 1 n && (Nat.ble n 64 && sgnd (bnd pc v) 63) with
    | true => some (.p (.c (.bool (mkAnd (mkNot (mkLt pc v (.lit (- p2 (n - 1))))) (mkLt pc v (.lit (p2 (n - 1))))))))
    | false => none
  | _ => none
def onesS (_ : PC) (_ : List (Nat × Blk)) (args : List SV) : Option SV := match args with
  | [.p (.c (.int .i64 (.lit (.ofNat n))))] => match Nat.ble n 63 with
    | true => some (.p (.c (.int .u64 (.lit (p2 n - 1)))))
    | false => none
  | _ => none
def lowS (pc : PC) (_ : List (Nat × Blk)) (args : List SV) : Option SV := match args with
  | [.p (.c (.int .u64 v)), .p (.c (.int .i64 (.lit (.ofNat n))))] => match Nat.ble n 63 && low (bnd pc v) 64 with
    | true => some (.p (.c (.int .u64 (mkBits pc 0 n v))))
    | false => none
  | _ => none
theorem u32_low {x : Int} (h : 0 ≤ x ∧ x < 2 ^ 32) : U32 x := ⟨h.1, by have := h.2; have e : (2 : Int) ^ 32 = 4294967296 := rfl; omega⟩
theorem u64_low {x : Int} (h : 0 ≤ x ∧ x < 2 ^ 64) : U64 x := ⟨h.1, by have := h.2; have e : (2 : Int) ^ 64 = 18446744073709551616 := rfl; omega⟩
theorem i64_sgn {x : Int} (h : - 2 ^ 63 ≤ x ∧ x < 2 ^ 63) : I64 x := ⟨by have := h.1; have e : (2 : Int) ^ 63 = 9223372036854775808 := rfl; omega, by have := h.2; have e : (2 : Int) ^ 63 = 9223372036854775808 := rfl; omega⟩
theorem i64_nat {n : Nat} (h : n ≤ 64) : I64 (.ofNat n) := ⟨by have : (Int.ofNat n) = (n : Int) := rfl; omega, by have : (Int.ofNat n) = (n : Int) := rfl; omega⟩
/-- a word's field put, as bits one behind the other -/
theorem put_cat (x v : Int) (l n : Nat) (hx : 0 ≤ x ∧ x < 2 ^ 32) (hv : 0 ≤ v ∧ v < 2 ^ n) (h : l + n ≤ 32) :
    ((putN x.toNat l n v.toNat : Nat) : Int) = (x / 2 ^ (l + n) % 2 ^ (32 - (l + n)) * 2 ^ n + v % 2 ^ n) * 2 ^ l + (x / 2 ^ 0 % 2 ^ l) % 2 ^ l := by
  obtain ⟨X, rfl⟩ := Int.eq_ofNat_of_zero_le hx.1
  obtain ⟨V, rfl⟩ := Int.eq_ofNat_of_zero_le hv.1
  have hV : V < 2 ^ n := by have := hv.2; rw [ipow] at this; exact Int.ofNat_lt.1 this
  have hX : X < 2 ^ 32 := by have := hx.2; rw [ipow] at this; exact Int.ofNat_lt.1 this
  rw [putN_eq]
  simp only [ipow, Int.toNat_natCast]
  have e1 : X / 2 ^ (l + n) % 2 ^ (32 - (l + n)) = X / 2 ^ (l + n) := by
    apply Nat.mod_eq_of_lt
    rw [Nat.div_lt_iff_lt_mul (Nat.two_pow_pos _), ← Nat.pow_add]
    have : 32 - (l + n) + (l + n) = 32 := by omega
    rw [this]; exact hX
  have e2 : V % 2 ^ n = V := Nat.mod_eq_of_lt hV
  have key : 2 ^ (l + n) * (X / 2 ^ (l + n)) + (2 ^ l * V + X % 2 ^ l) = (X / 2 ^ (l + n) % 2 ^ (32 - (l + n)) * 2 ^ n + V % 2 ^ n) * 2 ^ l + (X / 2 ^ 0 % 2 ^ l) % 2 ^ l := by
    rw [e1, e2, Nat.pow_zero, Nat.div_one, Nat.mod_mod, Nat.add_mul, Nat.mul_assoc, ← Nat.pow_add, Nat.add_comm n l, Nat.mul_comm (2 ^ (l + n)), Nat.mul_comm (2 ^ l) V, Nat.add_assoc]
  rw [key]
  push_cast
  rfl
theorem lies_nat {l n : Nat} (h1 : 1 ≤ n) (h2 : l + n ≤ 32) : liesB (.ofNat l) (.ofNat n) = true := by
  have a : (Int.ofNat l) = (l : Int) := rfl
  have b : (Int.ofNat n) = (n : Int) := rfl
  rw [liesB_iff, a, b]; omega
theorem put_s {cx : Ctx} {ρ : Env} {f : FuncId} (h : ∀ (x lo wd v : Int) (w : World) (hx : U32 x) (hv : U32 v) (hlo : I64 lo) (hwd : I64 wd), Calls cx.P f #[.int .u32 x, .agg #[.int .i64 lo, .int .i64 wd], .int .u32 v] w (Ret (.tuple #[.int .u32 (putI x lo wd v), .int .i64 (putE lo wd v)]) w)) : SumOk cx ρ f putS32 := by
  intro pc H args u hu ok L β vals w n hW ha
  unfold putS32 at hu
  split at hu
  · rename_i x l n v
    split at hu
    · rename_i hc
      cases hu
      cases ha
      simp only [Bool.and_eq_true] at hc
      have h1 := Nat.le_of_ble_eq_true hc.1
      have h2 := Nat.le_of_ble_eq_true hc.2.1
      have hv := low_ok ok hc.2.2.1
      have hx := low_ok ok hc.2.2.2
      have hv32 : v.int ρ < 2 ^ 32 := Int.lt_of_lt_of_le hv.2 (by rw [ipow, ipow]; exact Int.ofNat_le.2 (npow_le (by omega)))
      have hl := lies_nat h1 h2
      have hp : putOk (.ofNat n) (v.int ρ) = true := by
        unfold putOk
        obtain ⟨V, hV⟩ := Int.eq_ofNat_of_zero_le hv.1
        rw [hV] at hv ⊢
        have := hv.2; rw [ipow] at this
        exact decide_eq_true (Int.ofNat_lt.1 this)
      have := h (x.int ρ) (.ofNat l) (.ofNat n) (v.int ρ) w (u32_low hx) (u32_low ⟨hv.1, hv32⟩) (i64_nat (by omega)) (i64_nat (by omega))
      rw [putI_of hl hp, putE_of hl hp] at this
      have e := put_cat (x.int ρ) (v.int ρ) l n hx hv h2
      refine ⟨_, ?_, this⟩
      show some (Value.tuple #[.int .u32 ((mkCat pc l (mkCat pc n (mkBits pc (l + n) (32 - (l + n)) x) v) (mkBits pc 0 l x)).int ρ), .int .i64 0]) = some (Value.tuple #[.int .u32 ((putN (x.int ρ).toNat l n (v.int ρ).toNat : Nat) : Int), .int .i64 0])
      rw [mkCat_ok ok, mkCat_ok ok, mkBits_ok ok, mkBits_ok ok, e]
    · cases hu
  · cases hu
theorem get_s {cx : Ctx} {ρ : Env} {f : FuncId} (h : ∀ (x lo wd : Int) (w : World) (hx : U32 x) (hlo : I64 lo) (hwd : I64 wd), Calls cx.P f #[.int .u32 x, .agg #[.int .i64 lo, .int .i64 wd]] w (Ret (.tuple #[.int .u32 (getI x lo wd), .int .i64 (getE lo wd)]) w)) : SumOk cx ρ f getS32 := by
  intro pc H args u hu ok L β vals w n hW ha
  unfold getS32 at hu
  split at hu
  · rename_i x l n
    split at hu
    · rename_i hc
      cases hu
      cases ha
      simp only [Bool.and_eq_true] at hc
      have h1 := Nat.le_of_ble_eq_true hc.1
      have h2 := Nat.le_of_ble_eq_true hc.2.1
      have hx := low_ok ok hc.2.2
      have hl := lies_nat h1 h2
      have := h (x.int ρ) (.ofNat l) (.ofNat n) w (u32_low hx) (i64_nat (by omega)) (i64_nat (by omega))
      rw [getI_of hl, getE_of hl] at this
      refine ⟨_, ?_, this⟩
      show some (Value.tuple #[.int .u32 ((mkBits pc l n x).int ρ), .int .i64 0]) = some (Value.tuple #[.int .u32 ((getN (x.int ρ).toNat l n : Nat) : Int), .int .i64 0])
      rw [mkBits_ok ok]
      obtain ⟨X, hX⟩ := Int.eq_ofNat_of_zero_le hx.1
      rw [hX]
      simp only [ipow, Int.toNat_natCast]
      unfold getN
      push_cast
      rfl
    · cases hu
  · cases hu
theorem sext_nat (x : Int) (n : Nat) (hx : 0 ≤ x) (h1 : 1 ≤ n) : sextV n x = signN x.toNat n := by
  obtain ⟨X, rfl⟩ := Int.eq_ofNat_of_zero_le hx
  have e : 2 ^ n = 2 * 2 ^ (n - 1) := by rw [← Nat.pow_succ', Nat.succ_eq_add_one, show n - 1 + 1 = n by omega]
  unfold sextV signN
  simp only [ipow, Int.toNat_natCast]
  generalize 2 ^ (n - 1) = q at *
  generalize 2 ^ n = p at *
  have k : ((X : Nat) : Int) % ((p : Nat) : Int) = ((X % p : Nat) : Int) := (Int.natCast_emod X p).symm
  rw [k]
  split <;> split <;> omega
theorem wide_nat {n : Nat} (h1 : 1 ≤ n) (h2 : n ≤ 64) : wideB (.ofNat n) = true := (wideB_iff _).2 (by have : (Int.ofNat n) = (n : Int) := rfl; omega)
theorem sign_s {cx : Ctx} {ρ : Env} {f : FuncId} (h : ∀ (v n : Int) (w : World) (hv : U64 v) (hn : I64 n), Calls cx.P f #[.int .u64 v, .int .i64 n] w (Ret (.tuple #[.int .i64 (signI v n), .int .i64 (signE n)]) w)) : SumOk cx ρ f signS := by
  intro pc H args u hu ok L β vals w n hW ha
  unfold signS at hu
  split at hu
  · rename_i v n
    split at hu
    · rename_i hc
      cases hu
      cases ha
      simp only [Bool.and_eq_true] at hc
      have h1 := Nat.le_of_ble_eq_true hc.1
      have h2 := Nat.le_of_ble_eq_true hc.2.1
      have hv := low_ok ok hc.2.2
      have := h (v.int ρ) (.ofNat n) w (u64_low hv) (i64_nat (by omega))
      unfold signI signE at this
      rw [wide_nat h1 h2, if_pos rfl, if_pos rfl] at this
      refine ⟨_, ?_, this⟩
      show some (Value.tuple #[.int .i64 ((mkSext pc n v).int ρ), .int .i64 0]) = some (Value.tuple #[.int .i64 (signN (v.int ρ).toNat n), .int .i64 0])
      rw [mkSext_ok ok, sext_nat _ _ hv.1 h1]
    · cases hu
  · cases hu
theorem fits64_s {cx : Ctx} {ρ : Env} {f : FuncId} (h : ∀ (v n : Int) (s : Bool) (w : World) (hv : I64 v) (hn : I64 n), Calls cx.P f #[.int .i64 v, .int .i64 n, .bool s] w (Ret (.bool (fitsB v n s)) w)) : SumOk cx ρ f fits64S := by
  intro pc H args u hu ok L β vals w n hW ha
  unfold fits64S at hu
  split at hu
  · rename_i v n
    split at hu
    · rename_i hc
      cases hu
      cases ha
      simp only [Bool.and_eq_true] at hc
      have h1 := Nat.le_of_ble_eq_true hc.1
      have h2 := Nat.le_of_ble_eq_true hc.2.1
      have hv := sgnd_ok ok hc.2.2
      have := h (v.int ρ) (.ofNat n) true w (i64_sgn hv) (i64_nat (by omega))
      rw [fits_s (by have : (Int.ofNat n) = (n : Int) := rfl; omega)] at this
      refine ⟨_, ?_, this⟩
      show some (Value.bool ((mkAnd (mkNot (mkLt pc v (.lit (- p2 (n - 1))))) (mkLt pc v (.lit (p2 (n - 1))))).tru ρ)) = some (Value.bool (decide (-(2 : Int) ^ (n - 1) ≤ v.int ρ ∧ v.int ρ < 2 ^ (n - 1))))
      rw [mkAnd_ok, mkNot_ok, mkLt_ok ok, mkLt_ok ok]
      show some (Value.bool ((!decide (v.int ρ < - p2 (n - 1))) && decide (v.int ρ < p2 (n - 1)))) = _
      rw [p2_eq]
      congr 2
      by_cases a : v.int ρ < -(2 : Int) ^ (n - 1) <;> by_cases b : v.int ρ < (2 : Int) ^ (n - 1) <;> simp [a, b] <;> omega
    · cases hu
  · cases hu
theorem ones_s {cx : Ctx} {ρ : Env} {f : FuncId} (h : ∀ (n : Int) (w : World) (hn : I64 n), Calls cx.P f #[.int .i64 n] w (Ret (.int .u64 (onesI n)) w)) : SumOk cx ρ f onesS := by
  intro pc H args u hu ok L β vals w n hW ha
  unfold onesS at hu
  split at hu
  · rename_i n
    split at hu
    · rename_i hc
      cases hu
      cases ha
      have h2 := Nat.le_of_ble_eq_true hc
      have := h (.ofNat n) w (i64_nat (by omega))
      refine ⟨_, ?_, this⟩
      show some (Value.int .u64 (p2 n - 1)) = some (Value.int .u64 (onesI (.ofNat n)))
      rw [onesI, if_neg (by have : (Int.ofNat n) = (n : Int) := rfl; omega), p2_eq]
      rfl
    · cases hu
  · cases hu
theorem low_s {cx : Ctx} {ρ : Env} {f : FuncId} (h : ∀ (v n : Int) (w : World) (hv : U64 v) (hn : I64 n), Calls cx.P f #[.int .u64 v, .int .i64 n] w (Ret (.int .u64 (lowI v n)) w)) : SumOk cx ρ f lowS := by
  intro pc H args u hu ok L β vals w n hW ha
  unfold lowS at hu
  split at hu
  · rename_i v n
    split at hu
    · rename_i hc
      cases hu
      cases ha
      simp only [Bool.and_eq_true] at hc
      have h2 := Nat.le_of_ble_eq_true hc.1
      have hv := low_ok ok hc.2
      have := h (v.int ρ) (.ofNat n) w (u64_low hv) (i64_nat (by omega))
      refine ⟨_, ?_, this⟩
      show some (Value.int .u64 ((mkBits pc 0 n v).int ρ)) = some (Value.int .u64 (lowI (v.int ρ) (.ofNat n)))
      rw [mkBits_ok ok, lowI, if_neg (by have : (Int.ofNat n) = (n : Int) := rfl; omega)]
      obtain ⟨X, hX⟩ := Int.eq_ofNat_of_zero_le hv.1
      rw [hX]
      simp only [ipow, Int.toNat_natCast, Nat.pow_zero]
      show some (Value.int .u64 _) = some (Value.int .u64 ((X % 2 ^ n : Nat) : Int))
      congr 2
      push_cast
      simp
    · cases hu
  · cases hu
end
end Go.Proofs.YtopfaapcekiojaaGreat.Sym

/- The contracts beneath Encode. -/
namespace Go.Proofs.YtopfaapcekiojaaGreat.Sym
open Go Go.RowKit Go.Proofs.YtopfaapcekiojaaGreat
noncomputable section
def bitSums : Sums := [(143, putS32), (131, getS32), (130, signS), (144, onesS), (35, putS32), (34, getS32), (141, lowS)]
theorem ok_bitSums : AllOk Tryz.prog GoodL bitSums := by
  intro cx ρ hg _ hP p hp
  simp only [bitSums, List.mem_cons, List.not_mem_nil, or_false] at hp
  rcases hp with rfl | rfl | rfl | rfl | rfl | rfl | rfl
  · exact put_s (by rw [hP]; exact put_any)
  · exact get_s (by rw [hP]; exact get_any)
  · exact sign_s (by rw [hP]; exact sign_any)
  · exact ones_s (by rw [hP]; exact ones_any)
  · exact put_s (by rw [hP]; exact rput_any)
  · exact get_s (by rw [hP]; exact rget_any)
  · exact low_s (by rw [hP]; exact low_any)
def encSums : Sums := bitSums ++ sm_cooper_cooperref04_Check
theorem ok_encSums : AllOk Tryz.prog GoodL encSums := ok_bitSums.app ok_cooper_cooperref04_Check
end
end Go.Proofs.YtopfaapcekiojaaGreat.Sym
