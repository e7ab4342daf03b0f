/- Decode, Encode, Encode of the reference, its guess: all that is used of them. -/
import Derived.Test.YtopfaapcekiojaaGreatDecC
import Derived.Test.YtopfaapcekiojaaGreatDecH0
import Derived.Test.YtopfaapcekiojaaGreatDecH1
import Derived.Test.YtopfaapcekiojaaGreatDecH2
namespace Go.Proofs.YtopfaapcekiojaaGreat.Sym
open Go Go.RowKit Go.Proofs.YtopfaapcekiojaaGreat
set_option linter.unusedVariables false
theorem r_all : ∀ k, k < 33 → rK k = true
  | 0, _ => r_run_0
  | 1, _ => r_run_1
  | 2, _ => r_run_2
  | 3, _ => r_run_3
  | 4, _ => r_run_4
  | 5, _ => r_run_5
  | 6, _ => r_run_6
  | 7, _ => r_run_7
  | 8, _ => r_run_8
  | 9, _ => r_run_9
  | 10, _ => r_run_10
  | 11, _ => r_run_11
  | 12, _ => r_run_12
  | 13, _ => r_run_13
  | 14, _ => r_run_14
  | 15, _ => r_run_15
  | 16, _ => r_run_16
  | 17, _ => r_run_17
  | 18, _ => r_run_18
  | 19, _ => r_run_19
  | 20, _ => r_run_20
  | 21, _ => r_run_21
  | 22, _ => r_run_22
  | 23, _ => r_run_23
  | 24, _ => r_run_24
  | 25, _ => r_run_25
  | 26, _ => r_run_26
  | 27, _ => r_run_27
  | 28, _ => r_run_28
  | 29, _ => r_run_29
  | 30, _ => r_run_30
  | 31, _ => r_run_31
  | 32, _ => r_run_32
  | k + 33, h => by omega
theorem g_all : ∀ k, 1 ≤ k → k < 33 → gK k = true
  | 0, h, _ => by omega
  | 1, _, _ => g_run_1
  | 2, _, _ => g_run_2
  | 3, _, _ => g_run_3
  | 4, _, _ => g_run_4
  | 5, _, _ => g_run_5
  | 6, _, _ => g_run_6
  | 7, _, _ => g_run_7
  | 8, _, _ => g_run_8
  | 9, _, _ => g_run_9
  | 10, _, _ => g_run_10
  | 11, _, _ => g_run_11
  | 12, _, _ => g_run_12
  | 13, _, _ => g_run_13
  | 14, _, _ => g_run_14
  | 15, _, _ => g_run_15
  | 16, _, _ => g_run_16
  | 17, _, _ => g_run_17
  | 18, _, _ => g_run_18
  | 19, _, _ => g_run_19
  | 20, _, _ => g_run_20
  | 21, _, _ => g_run_21
  | 22, _, _ => g_run_22
  | 23, _, _ => g_run_23
  | 24, _, _ => g_run_24
  | 25, _, _ => g_run_25
  | 26, _, _ => g_run_26
  | 27, _, _ => g_run_27
  | 28, _, _ => g_run_28
  | 29, _, _ => g_run_29
  | 30, _, _ => g_run_30
  | 31, _, _ => g_run_31
  | 32, _, _ => g_run_32
  | k + 33, _, h => by omega
theorem encI : Tryz.prog.inits.idxOf? 23 = none := by kernel_rfl
theorem tup2_inj {a b c d : Value} (h : Value.tuple #[a, b] = Value.tuple #[c, d]) : a = c ∧ b = d := by simpa using h
theorem int_inj {k : IntKind} {a b : Int} (h : Value.int k a = Value.int k b) : a = b := by injection h
theorem enc_inj {y : Ins} {v z v' z' : Int} (h : ∀ W, Calls Tryz.prog 23 #[y.val] W (Ret (.tuple #[.int .u32 v, .int .i64 z]) W)) (h' : ∀ W, Calls Tryz.prog 23 #[y.val] W (Ret (.tuple #[.int .u32 v', .int .i64 z']) W)) : v = v' ∧ z = z' := by
  obtain ⟨a, b⟩ := tup2_inj (ret_unique encI (h default) (h' default))
  exact ⟨int_inj a, int_inj b⟩
/-- all that is used of an instruction's word -/
theorem enc_two (y : Ins) (hy : y.wf) : ∃ v z, U32 v ∧ (∀ W, Calls Tryz.prog 23 #[y.val] W (Ret (.tuple #[.int .u32 v, .int .i64 z]) W)) ∧ (∀ W, Calls Tryz.prog 12 #[y.val] W (Ret (.tuple #[.int .u32 v, .int .i64 z]) W)) ∧
    (∀ W, Calls Tryz.prog 27 #[y.val] W (Ret (.int .i64 z) W)) ∧ (z = 0 → 1 ≤ y.op ∧ y.op ≤ 32 ∧ DecIs y v ∧ GuessIs y y.op v) := by
  obtain ⟨v, z, uv, ev, _, cv, dv⟩ := enc_one y hy
  have he : ∀ i : Nat, i + 8 < 7 → I64 ((fun _ => 0 : Nat → Int) i) := fun _ _ => z64
  have w0 : World := default
  have hr : RefSame y := by
    refine by_class hy.1 (fun k hk' e => ?_) (fun h => ?_) (fun h => ?_)
    · exact rB_ok (t := fun _ => false) (w0 := w0) (bdK_ok hy he (by omega) (by omega)) (cells_den (op := .lit k) e.symm) (r_all k hk')
    · exact rB_ok (t := fun _ => false) (w0 := w0) (bdK_ok hy he (i64_bd hy.1).1 (by omega)) (cells_den (op := .var 7) rfl) r_run_lo
    · exact rB_ok (t := fun _ => false) (w0 := w0) (bdK_ok hy he (by omega) (i64_bd hy.1).2) (cells_den (op := .var 7) rfl) r_run_hi
  obtain ⟨v', z', hr⟩ := hr
  obtain ⟨rfl, rfl⟩ := enc_inj ev (fun W => (hr W).1)
  refine ⟨v, z, uv, ev, fun W => (hr W).2, cv, fun z0 => ?_⟩
  obtain ⟨o1, o2, d⟩ := dv z0
  obtain ⟨k, hk⟩ := Int.eq_ofNat_of_zero_le (show 0 ≤ y.op by omega)
  obtain ⟨v2, z2, h2, g2⟩ := gB_ok (t := fun _ => false) (w0 := w0) (bdK_ok hy he (by omega) (by omega)) (cells_den (op := .lit k) hk.symm) (g_all k (by omega) (by omega))
  obtain ⟨rfl, rfl⟩ := enc_inj ev h2
  refine ⟨o1, o2, d, ?_⟩
  rw [hk]
  exact g2 z0
theorem begun_run : allTrue (runF (decCx [] []) 300 10 [] [] 0) = true := by kernel_rfl
theorem begun_any (w : World) : Calls Tryz.prog 10 #[] w (Ret (.bool true) w) := by
  have ok : (decCx [] []).Ok ((encEnv y0 (fun _ => 0) (fun _ => false) w).at w) := (dec_cxok (y := y0) (e := fun _ => 0) (t := fun _ => false) (w := w) (bd := []) (ax := []) (by intro i l h e; cases e) (by intro p hp; cases hp)).at
  exact runF_true (cx := decCx [] []) ok (dec_sums w) insM rfl rfl (args := []) (vals := []) rfl begun_run
end Go.Proofs.YtopfaapcekiojaaGreat.Sym
