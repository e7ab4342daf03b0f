/- Logical immediates, the document's answer: a pattern's value. -/
import Derived.Test.YtopfaapcekiojaaGreatLogW0
import Derived.Outline
namespace Go.Proofs.YtopfaapcekiojaaGreat
open Go.RowKit Go.Sort
attribute [local go_sem] cell_gr frozen_gr
set_option linter.unusedVariables false

theorem bit_fact (f : Nat → Bool) (k : Nat) (hk : k < 64) : bits BinOp.or IntKind.u64 ((natOf f k : Nat) : Int) (IntKind.u64.wrap (2 ^ k)) = ((natOf f k + 2 ^ k : Nat) : Int) := by
  have h1 : natOf f k < 18446744073709551616 := lt64 (natOf_lt f k) (by omega)
  have h2 : 2 ^ k < 18446744073709551616 := lt64 (k := k + 1) (by rw [Nat.pow_succ]; have := Nat.two_pow_pos k; omega) (by omega)
  have e : IntKind.u64.wrap (2 ^ k) = ((2 ^ k : Nat) : Int) := by
    rw [ipow, IntKind.wrap_u64]
    generalize 2 ^ k = q at *
    omega
  rw [e, u64_or_nat _ _ h1 h2, natOf_or]
theorem rem_fact (n s t : Nat) (h : t < s) (hs : s ≤ 64) : (wrap64 ((n : Int) % (s : Int) + (t : Int))).tmod (s : Int) = (((n % s + t) % s : Nat) : Int) := by
  have h1 : n % s < s := Nat.mod_lt _ (by omega)
  have e1 : (n : Int) % (s : Int) + (t : Int) = ((n % s + t : Nat) : Int) := by omega
  have e2 : wrap64 ((n % s + t : Nat) : Int) = ((n % s + t : Nat) : Int) := by
    generalize n % s = a at *
    unfold wrap64
    omega
  rw [e1, e2, Int.tmod_eq_emod_of_nonneg (by omega)]
  exact (Int.natCast_emod _ _).symm
theorem rvalue_any (s o t w : Nat) (hP : Pat s o t w) (hw : w = 32 ∨ w = 64) (W : World) :
    Calls Tryz.prog 163 #[.int .i64 s, .int .i64 o, .int .i64 t, .int .i64 w] W (Ret (.int .u64 (valN s o t w)) W) := by
  obtain ⟨h1, h2, h3, h4, h5⟩ := hP
  have hs : s ≤ 64 := by omega
  have hs0 : 0 < s := by omega
  have HB := Lib.hid (fun k hk => bit_fact (oneAt s o t) k hk)
  go_enter Tryz.func163, Tryz.ntmps163
  go_wp2
  go_loop [9, 10] (fun v a => ∃ n : Nat, n ≤ w ∧ v = .int .u64 (valN s o t n) ∧ a = .int .i64 n) (fun _ a => (w - intOf a).toNat)
  case atStart => exact ⟨0, by omega, rfl, rfl⟩
  case round =>
    obtain ⟨n, hnw, rfl, rfl⟩ := hrel
    by_cases hlt : n < w
    · have em := HB.out n (by omega)
      by_cases hb : oneAt s o t n = true
      · have e1 : valN s o t (n + 1) = natOf (oneAt s o t) n + 2 ^ n := by show natOf _ (n + 1) = _; rw [natOf, if_pos hb]
        rw [← e1] at em
        have hd : decide ((wrap64 ((n : Int) % (s : Int) + (t : Int))).tmod (s : Int) < (o : Int)) = true := by
          have := of_decide_eq_true hb
          rw [rem_fact n s t h5 hs]
          exact decide_eq_true (by omega)
        clear e1 hb
        go_wp2
        go_round
        case rel => exact ⟨n + 1, by omega, by first | exact congrArg (Value.int IntKind.u64) em | rw [e1], by simp⟩
        case measure => simp [intOf]; omega
      · have e1 : valN s o t (n + 1) = valN s o t n := by show natOf _ (n + 1) = _; rw [natOf, if_neg hb, Nat.add_zero]; rfl
        have hd : decide ((wrap64 ((n : Int) % (s : Int) + (t : Int))).tmod (s : Int) < (o : Int)) = false := by
          have : ¬ (n % s + t) % s < o := fun h => hb (decide_eq_true h)
          rw [rem_fact n s t h5 hs]
          exact decide_eq_false (by omega)
        clear hb em
        go_wp2
        go_round
        case rel => exact ⟨n + 1, by omega, by first | exact congrArg (Value.int IntKind.u64) em | rw [e1], by simp⟩
        case measure => simp [intOf]; omega
    · obtain rfl : n = w := by omega
      go_wp2
      go_ret
      exact ⟨rfl, Below.refl _ _⟩
end Go.Proofs.YtopfaapcekiojaaGreat
