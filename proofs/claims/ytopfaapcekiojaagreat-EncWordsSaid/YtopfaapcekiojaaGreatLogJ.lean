/- Logical immediates: Encode, Pattern, Field. -/
import Derived.Test.YtopfaapcekiojaaGreatLogI
import Derived.Handy
namespace Go.Proofs.YtopfaapcekiojaaGreat
open Go.RowKit Go.Sort
attribute [local go_sem] cell_gr frozen_gr
set_option linter.unusedVariables false

theorem patErr_cases (v w : Int) : (patErr v w = 0 ∧ (w = 32 ∨ w = 64) ∧ IsPat v.toNat w.toNat (patP v w).1 (patP v w).2.1 (patP v w).2.2) ∨ ((patErr v w = 1 ∨ patErr v w = 20) ∧ patP v w = (0, 0, 0)) := by
  unfold patErr patP patE
  by_cases h : widB w = true
  · rw [if_pos h, if_pos h]
    by_cases hp : HasPat v.toNat w.toNat
    · rw [if_pos hp]
      exact .inl ⟨rfl, by simpa [widB] using h, patV_spec hp⟩
    · rw [if_neg hp, patV_no hp]
      exact .inr ⟨.inr rfl, rfl⟩
  · rw [if_neg h, if_neg h]
    exact .inr ⟨.inl rfl, rfl⟩
/-- N, immr, imms of a value -/
noncomputable def encN (v w : Int) : Int := if (patP v w).1 = 64 then 1 else 0
noncomputable def encR (v w : Int) : Int := (patP v w).2.2
noncomputable def encM (v w : Int) : Int := if patErr v w = 0 then topI (patP v w).1 + (patP v w).2.1 - 1 else 0
theorem enc_bounds (v w : Int) : (encN v w = 0 ∨ encN v w = 1) ∧ 0 ≤ encR v w ∧ encR v w < 64 ∧ 0 ≤ encM v w ∧ encM v w < 64 := by
  have hn : encN v w = 0 ∨ encN v w = 1 := by unfold encN; split <;> omega
  refine ⟨hn, ?_⟩
  rcases patErr_cases v w with ⟨h0, hw, ⟨p1, p2, p3, p4, p5⟩, _⟩ | ⟨he, hp⟩
  · unfold encR encM topI
    rw [if_pos h0]
    unfold Sz at p1
    generalize (patP v w).1 = s at *
    generalize (patP v w).2.1 = o at *
    generalize (patP v w).2.2 = t at *
    have : w.toNat = 32 ∨ w.toNat = 64 := by omega
    refine ⟨by omega, by omega, ?_⟩
    split <;> omega
  · unfold encR encM
    rw [hp, if_neg (by omega)]
    decide
theorem enc_none {v w : Int} (h : patErr v w ≠ 0) : encN v w = 0 ∧ encR v w = 0 ∧ encM v w = 0 := by
  rcases patErr_cases v w with ⟨h0, _⟩ | ⟨he, hp⟩
  · exact absurd h0 h
  · unfold encN encR encM
    rw [hp, if_neg h]
    exact ⟨rfl, rfl, rfl⟩
theorem parts_any (s o t : Nat) (hs : s ≤ 64) (ho : o ≤ 64) (W : World) : Calls Tryz.prog 171 #[.agg #[.int .i64 s, .int .i64 o, .int .i64 t]] W (Ret (.tuple #[.int .i64 (if s = 64 then 1 else 0), .int .i64 t, .int .i64 (topI (s : Int) + (o : Int) - 1)]) W) := by
  have ht : topI (s : Int) = if 32 ≤ (s : Int) then 0 else 64 - 2 * (s : Int) := rfl
  have hb : 0 ≤ topI (s : Int) ∧ topI (s : Int) ≤ 64 := by rw [ht]; split <;> omega
  have ha := Lib.hid (fun W => above_any s o t W (by omega) (by omega))
  by_cases h : s = 64
  · have b : ((s : Int) == 64) = true := by simp [h]
    rw [if_pos h]
    clear h ht
    generalize topI (s : Int) = q at *
    go_enter Tryz.func171, Tryz.ntmps171
    go_wp2
    refine wp_region_quiet_below (by kernel_rfl) (by kernel_rfl) ?_
    repeat (go_big_quiet_step (exact gr (ha.out _)))
    refine wpQuiet_nil ?_
    intro w2 hw2
    have hB := bone (of_gr hw2)
    clear hw2
    go_wp2
    go_returns
    exact ⟨by simp, hB⟩
  · have b : ((s : Int) == 64) = false := beq_false_of_ne (by omega)
    rw [if_neg h]
    clear h ht
    generalize topI (s : Int) = q at *
    go_enter Tryz.func171, Tryz.ntmps171
    go_wp2
    refine wp_region_quiet_below (by kernel_rfl) (by kernel_rfl) ?_
    repeat (go_big_quiet_step (exact gr (ha.out _)))
    refine wpQuiet_nil ?_
    intro w2 hw2
    have hB := bone (of_gr hw2)
    clear hw2
    go_wp2
    go_returns
    exact ⟨by simp, hB⟩
/-- a pattern that find gives -/
theorem patP_bounds (v w : Int) : (patP v w).1 ≤ 64 ∧ (patP v w).2.1 ≤ 64 ∧ (patP v w).2.2 ≤ 64 := by
  rcases patErr_cases v w with ⟨h0, hw, ⟨p1, p2, p3, p4, p5⟩, _⟩ | ⟨he, hp⟩
  · unfold Sz at p1; omega
  · rw [hp]; decide
theorem encode_any (v w : Int) (hv : U64 v) (W : World) : Calls Tryz.prog 161 #[.int .u64 v, .int .i64 w] W (Ret (.tuple #[.int .i64 (encN v w), .int .i64 (encR v w), .int .i64 (encM v w), .int .i64 (patErr v w)]) W) := by
  have hf := Lib.hid (find_any v w hv)
  unfold findT at hf
  obtain ⟨h1, h2, h3⟩ := patP_bounds v w
  have hp := Lib.hid (parts_any (patP v w).1 (patP v w).2.1 (patP v w).2.2 h1 h2)
  by_cases he : patErr v w = 0
  · have e1 : (if (patP v w).1 = 64 then (1 : Int) else 0) = encN v w := rfl
    have e2 : topI ((patP v w).1 : Int) + ((patP v w).2.1 : Int) - 1 = encM v w := (if_pos he).symm
    have e3 : (((patP v w).2.2 : Nat) : Int) = encR v w := rfl
    rw [e1, e2, e3] at hp
    rw [he, e3] at hf
    rw [he]
    clear e1 e2 e3 he h3
    generalize encN v w = a at *
    generalize encR v w = b at *
    generalize encM v w = c at *
    generalize (patP v w).1 = s at *
    generalize (patP v w).2.1 = o at *
    go_enter Tryz.func161, Tryz.ntmps161
    go_wp2_with (first
      | (go_at_call 170; refine (hf.out _).mono ?_; rintro e wA ⟨rfl, hbA⟩)
      | (go_at_call 171; refine (hp.out _).mono ?_; rintro e wB ⟨rfl, hbB⟩; have hB := bthen hbA (bone hbB) hbA.size))
    go_returns
    exact ⟨by simp, hB⟩
  · obtain ⟨e1, e2, e3⟩ := enc_none he
    rw [e1, e2, e3]
    have b : (patErr v w != 0) = true := by simpa using he
    generalize (patP v w).1 = s at *
    generalize (patP v w).2.1 = o at *
    generalize (patP v w).2.2 = q at *
    generalize patErr v w = er at *
    clear e1 e2 e3 hp h1 h2 h3 he
    go_enter Tryz.func161, Tryz.ntmps161
    go_wp2_with (first
      | (go_at_call 170; refine (hf.out _).mono ?_; rintro e wA ⟨rfl, hbA⟩))
    go_returns
    exact ⟨by simp, hbA.alloc hbA.size _⟩
/-- the field of a value -/
noncomputable def encF (v w : Int) : Int := encN v w * 4096 + encR v w * 64 + encM v w
theorem join_fact (n r m : Int) (hn : n = 0 ∨ n = 1) (h1 : 0 ≤ r) (h2 : r < 64) (h3 : 0 ≤ m) (h4 : m < 64) : bits BinOp.or IntKind.i64 (bits BinOp.or IntKind.i64 (n * 4096) (r * 64)) m = n * 4096 + r * 64 + m := by
  have hk : ∀ x : Int, 0 ≤ x → x < 2 ^ 63 → IntKind.i64.wrap x = x := fun x a b => by
    rw [show (2 : Int) ^ 63 = 9223372036854775808 by decide] at b
    rw [IntKind.wrap_i64]; omega
  have e1 : bits BinOp.or IntKind.i64 (n * 4096) (r * 64) = n * 4096 + r * 64 :=
    bits_join .i64 63 (by decide) hk 12 _ _ (by omega) (by rw [show (2 : Int) ^ 12 = 4096 by decide]; omega) (by rw [show (2 : Int) ^ 63 = 9223372036854775808 by decide]; omega) (by omega) (by rw [show (2 : Int) ^ 12 = 4096 by decide]; omega) (by rw [show (2 : Int) ^ 63 = 9223372036854775808 by decide]; omega)
  rw [e1]
  exact bits_join .i64 63 (by decide) hk 6 _ _ (by omega) (by rw [show (2 : Int) ^ 6 = 64 by decide]; omega) (by rw [show (2 : Int) ^ 63 = 9223372036854775808 by decide]; omega) (by omega) (by rw [show (2 : Int) ^ 6 = 64 by decide]; omega) (by rw [show (2 : Int) ^ 63 = 9223372036854775808 by decide]; omega)
theorem field_any (v w : Int) (hv : U64 v) (W : World) : Calls Tryz.prog 138 #[.int .u64 v, .int .i64 w] W (Ret (.tuple #[.int .i64 (encF v w), .int .i64 (patErr v w)]) W) := by
  have he := Lib.hid (encode_any v w hv)
  obtain ⟨hn, h1, h2, h3, h4⟩ := enc_bounds v w
  have hj := join_fact _ _ _ hn h1 h2 h3 h4
  have hq : encF v w = encN v w * 4096 + encR v w * 64 + encM v w := rfl
  rw [← hq] at hj
  clear hq
  generalize encF v w = f at *
  generalize encN v w = n at *
  generalize encR v w = r at *
  generalize encM v w = m at *
  generalize patErr v w = er at *
  go_enter Tryz.func138, Tryz.ntmps138
  go_wp2_with (first
    | (go_at_call 161; refine (he.out _).mono ?_; rintro e wA ⟨rfl, hbA⟩))
  go_returns
  exact ⟨by simp, hbA⟩
end Go.Proofs.YtopfaapcekiojaaGreat
