/- PROVED: LogimmOver returns true for every value, wide or not; each argument reads behind the call as it read before. No condition. -/
import Derived.Test.YtjojflodhghdbaaLogP
import Derived.Test.YtjojflodhghdbaaOpen
import Derived.ProofKit
import Derived.OpenShut
import Derived.Lib.SmallJoins
namespace Go.Proofs.Ytjojflodhghdbaa.lawLogimmOver
open Go.ChangeShapes Go.WideShapes Go.ChangeAt Go.RowKit Go.Sort Go.Joins
attribute [local go_sem] cell_gr frozen_gr
set_option linter.unusedVariables false

/-- all that the statement compares, at a width -/
theorem facts (x w : Nat) (hw : w = 32 ∨ w = 64) (hx : x < 2 ^ w) :
    patErr (((x ^^^ (2 ^ w - 1) : Nat)) : Int) w = patErr (x : Int) w ∧ (patP (((x ^^^ (2 ^ w - 1) : Nat)) : Int) w).1 = (patP (x : Int) w).1 ∧ (patP (x : Int) w).2.1 + (patP (((x ^^^ (2 ^ w - 1) : Nat)) : Int) w).2.1 = (patP (x : Int) w).1 ∧ patErr 0 w = 20 ∧ patErr (((2 ^ w - 1 : Nat)) : Int) w = 20 := by
  have hwid : widB (w : Int) = true := by simp [widB]; omega
  have e : ∀ y : Nat, patErr (y : Int) w = patE y w := fun y => by unfold patErr; rw [if_pos hwid]; rfl
  have p : ∀ y : Nat, patP (y : Int) w = patV y w := fun y => by unfold patP; rw [if_pos hwid]; rfl
  have z : patErr 0 w = 20 := by
    have := e 0
    rw [show ((0 : Nat) : Int) = 0 from rfl] at this
    rw [this]
    exact if_neg (zero_none w)
  rw [e, e, e, p, p]
  refine ⟨?_, ?_, ?_, z, if_neg (ones_none w)⟩
  · unfold patE
    by_cases h : HasPat x w
    · rw [if_pos h, if_pos ((over_has x w).2 h)]
    · rw [if_neg h, if_neg (fun h' => h ((over_has x w).1 h'))]
  · by_cases h : HasPat x w
    · rw [patV_is hw (over_pat (patV_spec h))]
    · rw [patV_no h, patV_no (fun h' => h ((over_has x w).1 h'))]
  · by_cases h : HasPat x w
    · rw [patV_is hw (over_pat (patV_spec h))]
      have := (patV_spec h).1
      obtain ⟨p1, p2, p3, p4, p5⟩ := this
      dsimp only
      omega
    · rw [patV_no h, patV_no (fun h' => h ((over_has x w).1 h'))]
      rfl
theorem twice (x : Nat) (hx : x < 2 ^ 32) : patErr (((x * 2 ^ 32 + x : Nat)) : Int) 64 = patErr (x : Int) 32 := by
  have e1 : patErr (((x * 2 ^ 32 + x : Nat)) : Int) 64 = patE (x * 2 ^ 32 + x) 64 := by
    unfold patErr; rw [if_pos (show widB 64 = true from rfl), Int.toNat_natCast]; rfl
  have e2 : patErr (x : Int) 32 = patE x 32 := by
    unfold patErr; rw [if_pos (show widB 32 = true from rfl), Int.toNat_natCast]; rfl
  rw [e1, e2]
  unfold patE
  by_cases h : HasPat x 32
  · rw [if_pos h, if_pos ((twice_has x hx).2 h)]
  · rw [if_neg h, if_neg (fun h' => h ((twice_has x hx).1 h'))]
theorem xor_nat (a b : Nat) (ha : a < 18446744073709551616) (hb : b < 18446744073709551616) : bits BinOp.xor IntKind.u64 (a : Int) (b : Int) = ((a ^^^ b : Nat) : Int) := by
  have hx : a ^^^ b < 2 ^ 64 := Nat.xor_lt_two_pow (by omega) (by omega)
  have h1 : (BitVec.ofInt 64 (a : Int)).toNat = a := by
    rw [BitVec.ofInt_natCast, BitVec.toNat_ofNat]; exact Nat.mod_eq_of_lt (by omega)
  have h2 : (BitVec.ofInt 64 (b : Int)).toNat = b := by
    rw [BitVec.ofInt_natCast, BitVec.toNat_ofNat]; exact Nat.mod_eq_of_lt (by omega)
  show IntKind.u64.wrap ((BitVec.ofInt 64 (a : Int) ^^^ BitVec.ofInt 64 (b : Int)).toNat : Int) = _
  rw [BitVec.toNat_xor, h1, h2, IntKind.wrap_u64]
  omega
theorem low32 (a : Nat) (ha : a < 18446744073709551616) : bits BinOp.and IntKind.u64 (a : Int) 4294967295 = ((a % 2 ^ 32 : Nat) : Int) := low_fact a 32 ha (by decide)
theorem low64 (a : Nat) (ha : a < 18446744073709551616) : bits BinOp.and IntKind.u64 (a : Int) 18446744073709551615 = (a : Int) := by
  have := low_fact a 64 ha (by decide)
  rw [Nat.mod_eq_of_lt (by rw [show (2 : Nat) ^ 64 = 18446744073709551616 by decide]; exact ha)] at this
  exact this
theorem shl32 (a : Nat) (ha : a < 2 ^ 32) : bits BinOp.or IntKind.u64 ((a : Int) * 4294967296) (a : Int) = ((a * 2 ^ 32 + a : Nat) : Int) := by
  have h32 : (2 : Nat) ^ 32 = 4294967296 := by decide
  have e : (a : Int) * 4294967296 = ((a * 2 ^ 32 : Nat) : Int) := by rw [h32]; omega
  rw [e, u64_or_nat _ _ (by omega) (by omega)]
  congr 1
  rw [Nat.mul_comm]
  exact (Nat.two_pow_add_eq_or_of_lt ha a).symm
theorem u64_nat (a : Nat) (ha : a < 18446744073709551616) : U64 (a : Int) := ⟨by omega, by omega⟩
set_option maxRecDepth 100000 in
set_option maxHeartbeats 4000000 in
theorem walk (v : Int) (b : Bool) (w : World) (hv : U64 v) : Calls Try.prog 11 #[.int .u64 v, .bool b] w (Ret (.bool true) w) := by
  obtain ⟨vn, rfl⟩ : ∃ vn : Nat, v = (vn : Int) := ⟨v.toNat, by unfold U64 at hv; omega⟩
  have hvn : vn < 18446744073709551616 := by unfold U64 at hv; omega
  have hB : Below w.heap.size w w := Below.refl _ _
  have c1 := Lib.hid pattern_any
  have c2 := Lib.hid field_any
  have h32 : (2 : Nat) ^ 32 = 4294967296 := by decide
  have h64 : (2 : Nat) ^ 64 = 18446744073709551616 := by decide
  have u0 : U64 0 := by unfold U64; omega
  cases b with
  | false =>
    obtain ⟨x, hx⟩ : ∃ x, vn % 2 ^ 32 = x := ⟨_, rfl⟩
    have hx32 : x < 2 ^ 32 := by rw [← hx]; exact Nat.mod_lt _ (by decide)
    have f0 := low32 vn hvn
    rw [hx] at f0
    have k32 : (2 : Nat) ^ 32 - 1 = 4294967295 := by decide
    obtain ⟨y, hy⟩ : ∃ y, x ^^^ 4294967295 = y := ⟨_, rfl⟩
    have f1 := xor_nat x 4294967295 (by omega) (by decide)
    rw [hy, show ((4294967295 : Nat) : Int) = 4294967295 from rfl] at f1
    have f2 : bits BinOp.and IntKind.u64 (x : Int) 4294967295 = (x : Int) := by
      rw [low32 x (by omega), Nat.mod_eq_of_lt hx32]
    have f3 := shl32 x hx32
    have F6 := twice x hx32
    obtain ⟨F1, F2, F3, F4, F5⟩ := facts x 32 (.inl rfl) hx32
    rw [k32] at F1 F2 F3 F5
    rw [hy] at F1 F2 F3
    have hy64 : y < 18446744073709551616 := by
      rw [← hy, ← h64]
      exact Nat.xor_lt_two_pow (by omega) (by omega)
    have ux := u64_nat x (by omega)
    have uy := u64_nat y hy64
    have ut := u64_nat (x * 2 ^ 32 + x) (by omega)
    have uo : U64 4294967295 := by unfold U64; omega
    have hP1 := patP_bounds (x : Int) 32
    have hP2 := patP_bounds (y : Int) 32
    rw [show (((32 : Nat)) : Int) = 32 from rfl] at F1 F2 F3 F4 F5
    rw [show ((4294967295 : Nat) : Int) = 4294967295 from rfl] at F5
    generalize x * 2 ^ 32 + x = t at *
    have hxi : (x : Int) < 4294967296 := by omega
    clear hx hy hv hx32 h32 h64 hvn k32
    have S1 : ((((patP (x : Int) 32).2.1 : Nat) : Int) + (((patP (y : Int) 32).2.1 : Nat) : Int) != (((patP (x : Int) 32).1 : Nat) : Int)) = false := by simp; omega
    have q : patErr (x : Int) 32 = 0 ∨ (patErr (x : Int) 32 == 0) = false := by by_cases h : patErr (x : Int) 32 = 0; exact .inl h; exact .inr (beq_false_of_ne h)
    rcases q with q0 | q0
    all_goals
      go_enter Try.func11, Try.ntmps11
      go_wp2_with (first
        | (go_at_call 39; refine (begun_any _).mono ?_; rintro e w7 ⟨rfl, hb7⟩; replace hB := bthen hB hb7 hB.size)
        | (go_at_call 44; refine (c1.out _ _ (by assumption) _).mono ?_; rintro e w1 ⟨rfl, hb1⟩; replace hB := bthen hB hb1 hB.size)
        | (go_at_call 42; refine (c2.out _ _ (by assumption) _).mono ?_; rintro e w6 ⟨rfl, hb6⟩; replace hB := bthen hB hb6 hB.size))
      go_returns
      exact ⟨by simp, hB⟩
  | true =>
    obtain ⟨x, hx⟩ : ∃ x, vn = x := ⟨_, rfl⟩
    have k64 : (2 : Nat) ^ 64 - 1 = 18446744073709551615 := by decide
    have hx64 : x < 18446744073709551616 := by omega
    have hxp : x < 2 ^ 64 := by omega
    have f0 := low64 vn hvn
    rw [hx] at f0
    obtain ⟨l, hl⟩ : ∃ l, x % 2 ^ 32 = l := ⟨_, rfl⟩
    have hl32 : l < 2 ^ 32 := by rw [← hl]; exact Nat.mod_lt _ (by decide)
    obtain ⟨y, hy⟩ : ∃ y, x ^^^ 18446744073709551615 = y := ⟨_, rfl⟩
    have f1 := xor_nat x 18446744073709551615 (by omega) (by decide)
    rw [hy, show ((18446744073709551615 : Nat) : Int) = 18446744073709551615 from rfl] at f1
    have f2 : bits BinOp.and IntKind.u64 (x : Int) 4294967295 = (l : Int) := by
      rw [low32 x (by omega), hl]
    have f3 := shl32 l hl32
    have F6 := twice l hl32
    obtain ⟨F1, F2, F3, F4, F5⟩ := facts x 64 (.inr rfl) hxp
    rw [k64] at F1 F2 F3 F5
    rw [hy] at F1 F2 F3
    have hy64 : y < 18446744073709551616 := by
      rw [← hy, ← h64]
      exact Nat.xor_lt_two_pow hxp (by omega)
    have ux := u64_nat x (by omega)
    have uy := u64_nat y hy64
    have ul := u64_nat l (by omega)
    have ut := u64_nat (l * 2 ^ 32 + l) (by omega)
    have uo : U64 18446744073709551615 := by unfold U64; omega
    have hP1 := patP_bounds (x : Int) 64
    have hP2 := patP_bounds (y : Int) 64
    rw [show (((64 : Nat)) : Int) = 64 from rfl] at F1 F2 F3 F4 F5
    rw [show ((18446744073709551615 : Nat) : Int) = 18446744073709551615 from rfl] at F5
    generalize l * 2 ^ 32 + l = t at *
    have hli : (l : Int) < 4294967296 := by omega
    subst hx
    clear hy hv hl32 h32 h64 hvn k64 hl hxp
    have S1 : ((((patP (vn : Int) 64).2.1 : Nat) : Int) + (((patP (y : Int) 64).2.1 : Nat) : Int) != (((patP (vn : Int) 64).1 : Nat) : Int)) = false := by simp; omega
    have q : patErr (vn : Int) 64 = 0 ∨ (patErr (vn : Int) 64 == 0) = false := by by_cases h : patErr (vn : Int) 64 = 0; exact .inl h; exact .inr (beq_false_of_ne h)
    rcases q with q0 | q0
    all_goals
      go_enter Try.func11, Try.ntmps11
      go_wp2_with (first
        | (go_at_call 39; refine (begun_any _).mono ?_; rintro e w7 ⟨rfl, hb7⟩; replace hB := bthen hB hb7 hB.size)
        | (go_at_call 44; refine (c1.out _ _ (by assumption) _).mono ?_; rintro e w1 ⟨rfl, hb1⟩; replace hB := bthen hB hb1 hB.size)
        | (go_at_call 42; refine (c2.out _ _ (by assumption) _).mono ?_; rintro e w6 ⟨rfl, hb6⟩; replace hB := bthen hB hb6 hB.size))
      go_returns
      exact ⟨by simp, hB⟩
theorem own : ownKnob Try.prog.godebug = none := by kernel_rfl
theorem laidOut : laidOutB Try.prog = true := by kernel_rfl
set_option maxRecDepth 100000 in
theorem lifted (os : Os) (started : os.Started) (H : Type) (enc : TypeId × Value → H) :
    ReturnsInHanded {} Try.checked os 11 .any (Rows.logimmOverSpec.pre6 enc Try.prog Try.f11 Rows.logimmOverRow.domain false) (Rows.logimmOverSpec.post enc Try.prog Try.f11 false true false false) := by
  refine returnsInHanded_of_change (C := Try.checked) own started (by kernel_rfl) Try.func11
    (ChangeSpec.witness6 (enc := enc) (C := Try.checked) false ⟨#[], #[.int .u64 0, .bool false], []⟩ 8 (by kernel_rfl) (by kernel_rfl) (by kernel_rfl) (by kernel_rfl)) ?_
  intro W base args ds gs before hval0 hW hcnd _
  have hval : ∀ (j : Nat) t v, Try.f11.params[j]? = some t → args[j]? = some v → Value.okWide Try.prog W .any base t v := hval0
  have hW' := hW
  obtain ⟨p, q, hA0, hV, rfl, hfz, hnd⟩ := hW
  have hA : DataW.TrodAll enc Try.prog W 0 (fun _ => true) true Try.f11.params.toList args.toList ds p := hA0
  rw [Try.params11] at hA hval
  obtain ⟨v0, vs0, d0, ds0, p0, q0, hargs, rfl, rfl, h0, r0⟩ := trodAll_cons hA
  obtain ⟨v1, vs1, d1, ds1, p1, q1, rfl, rfl, rfl, h1, r1⟩ := trodAll_cons r0
  obtain ⟨rfl, rfl, rfl⟩ := trodAll_nil r1
  obtain rfl : args = #[v0, v1] := by cases args; simp_all
  obtain ⟨rfl, rfl⟩ := trodVars_none hV
  have k0 := h0
  have k1 := h1
  have lt0 : ∀ x ∈ p0, x.block < W.heap.size := by obtain ⟨m, hm⟩ := k0; exact DataW.trod_lt m _ _ _ hm
  have lt1 : ∀ x ∈ p1, x.block < W.heap.size := by obtain ⟨m, hm⟩ := k1; exact DataW.trod_lt m _ _ _ hm
  obtain ⟨a0, rfl, _, _, w0⟩ := open_int Try.underlying31 (hval 0 31 v0 rfl rfl) h0
  obtain ⟨a1, rfl, _, _⟩ := open_bool Try.underlying4 (hval 1 4 v1 rfl rfl) h1
  clear hA0 hval0
  refine (walk a0 a1 W (u64_wf w0)).mono fun e W' ⟨he, bel⟩ => ?_
  subst he
  exact ⟨_, rfl, _, _, _, [], _, [], hW', trodAll_mk1 (shut_bool Try.underlying4 _), (trodAll_cons_mk (Below.trod laidOut (by kernel_rfl) (of_decide_eq_true (by kernel_rfl)) k0 bel lt0) (trodAll_cons_mk (Below.trod laidOut (by kernel_rfl) (of_decide_eq_true (by kernel_rfl)) k1 bel lt1) trodAll_mk0)), rfl, bel.frame _, fun h => by cases h⟩

theorem proved : Rows.LogimmOverSaid :=
  OpenClaim.holds_of_wide 11 Try.f11 rfl rfl rfl rfl rfl rfl rfl ⟨rfl, rfl, rfl, rfl, rfl⟩ rfl rfl rfl rfl rfl (by kernel_rfl) Try.func11 (by kernel_rfl)
    (of_decide_eq_true (by kernel_rfl)) (by unfold Func.isWrapper; first | (rw [if_pos (by decide +kernel)]; kernel_rfl) | (rw [if_neg (by decide +kernel)]; exact ⟨rfl, rfl⟩))
    (fun os started H enc _ => lifted os started H enc)
#print axioms proved
end Go.Proofs.Ytjojflodhghdbaa.lawLogimmOver
