/- What is fixed of each class: runs; all classes together. -/
import Derived.Test.YtopfaapcekiojaaDoorFxA
namespace Go.Proofs.YtopfaapcekiojaaDoor.Sym
open Go Go.RowKit Go.Proofs.YtopfaapcekiojaaDoor
set_option linter.unusedVariables false
set_option maxRecDepth 100000 in
theorem fx_run_1 : fxB 1 268435456 520093696 = true := by kernel_rfl
set_option maxRecDepth 100000 in
theorem fx_run_2 : fxB 2 285212672 528482304 = true := by kernel_rfl
set_option maxRecDepth 100000 in
theorem fx_run_3 : fxB 3 301989888 528482304 = true := by kernel_rfl
set_option maxRecDepth 100000 in
theorem fx_run_4 : fxB 4 310378496 528482304 = true := by kernel_rfl
set_option maxRecDepth 100000 in
theorem fx_run_5 : fxB 5 318767104 528482304 = true := by kernel_rfl
set_option maxRecDepth 100000 in
theorem fx_run_6 : fxB 6 327155712 2141192192 = true := by kernel_rfl
set_option maxRecDepth 100000 in
theorem fx_run_7 : fxB 7 1409286144 4278190096 = true := by kernel_rfl
set_option maxRecDepth 100000 in
theorem fx_run_8 : fxB 8 335544320 2080374784 = true := by kernel_rfl
set_option maxRecDepth 100000 in
theorem fx_run_9 : fxB 9 872415232 2113929216 = true := by kernel_rfl
set_option maxRecDepth 100000 in
theorem fx_run_10 : fxB 10 905969664 2113929216 = true := by kernel_rfl
set_option maxRecDepth 100000 in
theorem fx_run_11 : fxB 11 3592355840 4263509023 = true := by kernel_rfl
set_option maxRecDepth 100000 in
theorem fx_run_12 : fxB 12 3556769792 4278190108 = true := by kernel_rfl
set_option maxRecDepth 100000 in
theorem fx_run_13 : fxB 13 3573751839 4294963231 = true := by kernel_rfl
set_option maxRecDepth 100000 in
theorem fx_run_14 : fxB 14 3573755935 4294963231 = true := by kernel_rfl
set_option maxRecDepth 100000 in
theorem fx_run_15 : fxB 15 3574595584 4291821568 = true := by kernel_rfl
set_option maxRecDepth 100000 in
theorem fx_run_16 : fxB 16 3573563423 4294504479 = true := by kernel_rfl
set_option maxRecDepth 100000 in
theorem fx_run_17 : fxB 17 3574071296 4292345856 = true := by kernel_rfl
set_option maxRecDepth 100000 in
theorem fx_run_18 : fxB 18 402653184 1056964608 = true := by kernel_rfl
set_option maxRecDepth 100000 in
theorem fx_run_19 : fxB 19 671088640 1006632960 = true := by kernel_rfl
set_option maxRecDepth 100000 in
theorem fx_run_20 : fxB 20 956301312 1056964608 = true := by kernel_rfl
set_option maxRecDepth 100000 in
theorem fx_run_21 : fxB 21 939524096 1059061760 = true := by kernel_rfl
set_option maxRecDepth 100000 in
theorem fx_run_22 : fxB 22 941623296 1059064832 = true := by kernel_rfl
set_option maxRecDepth 100000 in
theorem fx_run_23 : fxB 23 134217728 1056964608 = true := by kernel_rfl
set_option maxRecDepth 100000 in
theorem fx_run_24 : fxB 24 167772160 520093696 = true := by kernel_rfl
set_option maxRecDepth 100000 in
theorem fx_run_25 : fxB 25 184549376 522190848 = true := by kernel_rfl
set_option maxRecDepth 100000 in
theorem fx_run_26 : fxB 26 186646528 534773760 = true := by kernel_rfl
set_option maxRecDepth 100000 in
theorem fx_run_27 : fxB 27 436207616 534838272 = true := by kernel_rfl
set_option maxRecDepth 100000 in
theorem fx_run_28 : fxB 28 977272832 1071645712 = true := by kernel_rfl
set_option maxRecDepth 100000 in
theorem fx_run_29 : fxB 29 444596224 1071646720 = true := by kernel_rfl
set_option maxRecDepth 100000 in
theorem fx_run_30 : fxB 30 1522532352 2147418112 = true := by kernel_rfl
set_option maxRecDepth 100000 in
theorem fx_run_31 : fxB 31 448790528 2145386496 = true := by kernel_rfl
set_option maxRecDepth 100000 in
theorem fx_run_32 : fxB 32 452984832 2130706432 = true := by kernel_rfl
def fixB : Nat → Nat
  | 1 => 268435456
  | 2 => 285212672
  | 3 => 301989888
  | 4 => 310378496
  | 5 => 318767104
  | 6 => 327155712
  | 7 => 1409286144
  | 8 => 335544320
  | 9 => 872415232
  | 10 => 905969664
  | 11 => 3592355840
  | 12 => 3556769792
  | 13 => 3573751839
  | 14 => 3573755935
  | 15 => 3574595584
  | 16 => 3573563423
  | 17 => 3574071296
  | 18 => 402653184
  | 19 => 671088640
  | 20 => 956301312
  | 21 => 939524096
  | 22 => 941623296
  | 23 => 134217728
  | 24 => 167772160
  | 25 => 184549376
  | 26 => 186646528
  | 27 => 436207616
  | 28 => 977272832
  | 29 => 444596224
  | 30 => 1522532352
  | 31 => 448790528
  | 32 => 452984832
  | _ => 0
def fixM : Nat → Nat
  | 1 => 520093696
  | 2 => 528482304
  | 3 => 528482304
  | 4 => 528482304
  | 5 => 528482304
  | 6 => 2141192192
  | 7 => 4278190096
  | 8 => 2080374784
  | 9 => 2113929216
  | 10 => 2113929216
  | 11 => 4263509023
  | 12 => 4278190108
  | 13 => 4294963231
  | 14 => 4294963231
  | 15 => 4291821568
  | 16 => 4294504479
  | 17 => 4292345856
  | 18 => 1056964608
  | 19 => 1006632960
  | 20 => 1056964608
  | 21 => 1059061760
  | 22 => 1059064832
  | 23 => 1056964608
  | 24 => 520093696
  | 25 => 522190848
  | 26 => 534773760
  | 27 => 534838272
  | 28 => 1071645712
  | 29 => 1071646720
  | 30 => 2147418112
  | 31 => 2145386496
  | 32 => 2130706432
  | _ => 0
theorem fx_all : ∀ k, 1 ≤ k → k < 33 → FixIs k (fixB k) (fixM k)
  | 0, h, _ => by omega
  | 1, _, _ => fx_ok fx_run_1
  | 2, _, _ => fx_ok fx_run_2
  | 3, _, _ => fx_ok fx_run_3
  | 4, _, _ => fx_ok fx_run_4
  | 5, _, _ => fx_ok fx_run_5
  | 6, _, _ => fx_ok fx_run_6
  | 7, _, _ => fx_ok fx_run_7
  | 8, _, _ => fx_ok fx_run_8
  | 9, _, _ => fx_ok fx_run_9
  | 10, _, _ => fx_ok fx_run_10
  | 11, _, _ => fx_ok fx_run_11
  | 12, _, _ => fx_ok fx_run_12
  | 13, _, _ => fx_ok fx_run_13
  | 14, _, _ => fx_ok fx_run_14
  | 15, _, _ => fx_ok fx_run_15
  | 16, _, _ => fx_ok fx_run_16
  | 17, _, _ => fx_ok fx_run_17
  | 18, _, _ => fx_ok fx_run_18
  | 19, _, _ => fx_ok fx_run_19
  | 20, _, _ => fx_ok fx_run_20
  | 21, _, _ => fx_ok fx_run_21
  | 22, _, _ => fx_ok fx_run_22
  | 23, _, _ => fx_ok fx_run_23
  | 24, _, _ => fx_ok fx_run_24
  | 25, _, _ => fx_ok fx_run_25
  | 26, _, _ => fx_ok fx_run_26
  | 27, _, _ => fx_ok fx_run_27
  | 28, _, _ => fx_ok fx_run_28
  | 29, _, _ => fx_ok fx_run_29
  | 30, _, _ => fx_ok fx_run_30
  | 31, _, _ => fx_ok fx_run_31
  | 32, _, _ => fx_ok fx_run_32
  | k + 33, _, h => by omega
theorem enc_fx (y : Ins) (hy : y.wf) : ∃ v z, (∀ W, Calls Tryd.prog 5 #[y.val] W (Ret (.tuple #[.int .u32 v, .int .i64 z]) W)) ∧ (z = 0 → ∃ k : Nat, 1 ≤ k ∧ k < 33 ∧ y.op = k ∧ mtV (fixM k) (fixB k) v = true) := by
  have he : ∀ i : Nat, i + 8 < 7 → I64 ((fun _ => 0 : Nat → Int) i) := fun _ _ => z64
  have w0 : World := default
  refine by_class hy.1 (fun k hk' e => ?_) (fun h => ?_) (fun h => ?_)
  · by_cases hk : k = 0
    · subst hk
      obtain ⟨v, z, h1, h2⟩ := no_ok (t := fun _ => false) (w0 := w0) (bdK_ok hy he (by omega) (by omega)) (cells_den (op := .lit 0) e.symm) no_0
      exact ⟨v, z, h1, fun h => absurd h h2⟩
    · obtain ⟨v, z, h1, h2⟩ := (fx_all k (by omega) hk').2 y hy e
      exact ⟨v, z, h1, fun h => ⟨k, by omega, hk', e, h2 h⟩⟩
  · obtain ⟨v, z, h1, h2⟩ := no_ok (t := fun _ => false) (w0 := w0) (bdK_ok hy he (i64_bd hy.1).1 (by omega)) (cells_den (op := .var 7) rfl) no_lo
    exact ⟨v, z, h1, fun h => absurd h h2⟩
  · obtain ⟨v, z, h1, h2⟩ := no_ok (t := fun _ => false) (w0 := w0) (bdK_ok hy he (by omega) (i64_bd hy.1).2) (cells_den (op := .var 7) rfl) no_hi
    exact ⟨v, z, h1, fun h => absurd h h2⟩
theorem live_run : allTrue (runF (decCx [] []) 300 4 [] [] 0) = true := by kernel_rfl
theorem live_any (w : World) : Calls Tryd.prog 4 #[] w (Ret (.bool true) w) := by
  have ok : (decCx [] []).Ok ((insEnv y0 (fun _ => 0) (fun _ => false) w).at w) := (dec_cxok (y := y0) (e := fun _ => 0) (t := fun _ => false) (w := w) (bd := []) (ax := []) (by intro i l h e; cases e) (by intro p hp; cases hp)).at
  exact runF_true (cx := decCx [] []) ok (dec_sums w) insM rfl rfl (args := []) (vals := []) rfl live_run
end Go.Proofs.YtopfaapcekiojaaDoor.Sym
