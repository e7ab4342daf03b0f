/- What is fixed of each class: Base of the reference, and the words that Encode gives. -/
import Derived.Test.YtopfaapcekiojaaGreatDecG
namespace Go.Proofs.YtopfaapcekiojaaGreat.Sym
open Go Go.RowKit Go.Proofs.YtopfaapcekiojaaGreat
set_option linter.unusedVariables false
noncomputable section
/-- some bits of a number are these, choice by choice -/
def mtGo (m b : Nat) : Nat → PC → SE → Bool
  | 0, _, _ => false
  | n + 1, pc, w => okOr pc fun pc => match w with
    | .ite c x y => match decT pc c with
      | some true => mtGo m b n pc x
      | some false => mtGo m b n pc y
      | none => match mtGo m b n (assume pc c true) x with
        | true => mtGo m b n (assume pc c false) y
        | false => false
    | w => isYes (decT pc (mkMt pc m b w))
theorem mtGo_ok {m b : Nat} {ρ : Env} : ∀ {n : Nat} {pc : PC} {w : SE}, PcOk ρ pc → mtGo m b n pc w = true → mtV m b (w.int ρ) = true
  | 0, _, _, _, h => by cases h
  | n + 1, pc, w, ok, h => by
    unfold mtGo at h
    replace h := okOr_ok ok h
    split at h
    · rename_i c x y
      show mtV m b (if c.tru ρ then x.int ρ else y.int ρ) = true
      split at h
      · rename_i hd; rw [if_pos (decT_ok ok hd)]; exact mtGo_ok ok h
      · rename_i hd; rw [if_neg (by rw [decT_ok ok hd]; simp)]; exact mtGo_ok ok h
      · split at h
        · rename_i hx
          cases hc : c.tru ρ with
          | true => rw [if_pos rfl]; exact mtGo_ok (assume_ok ok hc) hx
          | false => rw [if_neg (by simp)]; exact mtGo_ok (assume_ok ok hc) h
        · cases h
    · have := decT_ok ok (isYes_ok h)
      rw [mkMt_ok ok] at this
      exact this
def baseV (b m : Nat) : SV := .tup [.c (.int .u32 (.lit (.ofNat b))), .c (.int .u32 (.lit (.ofNat m))), .c (.int .i64 (.lit 0))]
def baseQ (b m : Nat) (pc : PC) (v : SV) : Bool := v.same (baseV b m)
def fxW (m b : Nat) (bd : List (Nat × Int × Int)) (l : List SC) : Bool := match encAt (PC.start (decCx bd [])) l with
  | some (.ite c x w, z) => okOr (assume (PC.start (decCx bd [])) c true) (fun p => neBy 100 p z) && okOr (assume (PC.start (decCx bd [])) c false) (fun p => mtGo m b 20 p w)
  | _ => false
def fxB (k b m : Nat) : Bool := chkB (decCx [] []) 13 [.p (.c (.int .i64 (.lit (.ofNat k))))] (baseQ b m) && fxW m b (bdK k k 7) (cellsI (.lit k))
/-- what is fixed of a class -/
def FixIs (k b m : Nat) : Prop := (∀ W, Calls Tryz.prog 13 #[.int .i64 (.ofNat k)] W (Ret (.tuple #[.int .u32 (.ofNat b), .int .u32 (.ofNat m), .int .i64 0]) W)) ∧
  ∀ y : Ins, y.wf → y.op = k → ∃ v z, (∀ W, Calls Tryz.prog 23 #[y.val] W (Ret (.tuple #[.int .u32 v, .int .i64 z]) W)) ∧ (z = 0 → mtV m b v = true)
theorem fx_ok {k b m : Nat} (h : fxB k b m = true) : FixIs k b m := by
  unfold fxB at h
  simp only [Bool.and_eq_true] at h
  have w0 : World := default
  refine ⟨?_, fun y hy hk => ?_⟩
  · obtain ⟨v, pc, ok, hq, hc⟩ := chkB_calls h.1 (ρ := encEnv y0 (fun _ => 0) (fun _ => false) w0) (dec_cxok (by intro i l h e; cases e) (by intro p hp; cases hp)) dec_sums insM (vals := [.int .i64 (.ofNat k)]) rfl
    have e : v = baseV b m := SV.same_eq hq
    subst e
    exact hc _ fun β => rfl
  · have he : ∀ i : Nat, i + 8 < 7 → I64 ((fun _ => 0 : Nat → Int) i) := fun _ _ => z64
    have hb := bdK_ok hy he (lo := k) (hi := k) (n := 7) (by omega) (by omega)
    have hl : ∀ β, (SP.agg (cellsI (.lit (k : Int)))).den (encEnv y (fun _ => 0) (fun _ => false) w0) β = some y.val := cells_den (op := .lit k) hk.symm
    have cok : (decCx (bdK k k 7) []).Ok (encEnv y (fun _ => 0) (fun _ => false) w0) := dec_cxok hb (by intro p hp; cases hp)
    have ok : PcOk (encEnv y (fun _ => 0) (fun _ => false) w0) (PC.start (decCx (bdK k k 7) [])) := cok.start
    have h2 := h.2
    unfold fxW at h2
    split at h2
    · rename_i c x w z hE
      simp only [Bool.and_eq_true] at h2
      refine ⟨(SE.ite c x w).int (encEnv y (fun _ => 0) (fun _ => false) w0), z.int (encEnv y (fun _ => 0) (fun _ => false) w0), encAt_ok hE (encGood y _ _ w0) (fun _ => rfl) ok hl, fun z0 => ?_⟩
      have hc : c.tru (encEnv y (fun _ => 0) (fun _ => false) w0) = false := by
        cases hc : c.tru (encEnv y (fun _ => 0) (fun _ => false) w0) with
        | false => rfl
        | true => exact absurd z0 (neBy_ok (assume_ok ok hc) (okOr_ok (assume_ok ok hc) h2.1))
      have hi : (SE.ite c x w).int (encEnv y (fun _ => 0) (fun _ => false) w0) = w.int (encEnv y (fun _ => 0) (fun _ => false) w0) := by show (if c.tru _ then _ else _) = _; rw [hc]; rfl
      rw [hi]
      exact mtGo_ok (assume_ok ok hc) (okOr_ok (assume_ok ok hc) h2.2)
    · cases h2
set_option maxRecDepth 100000 in
theorem fx_run_1 : fxB 1 268435456 520093696 = true := by kernel_rfl
set_option maxRecDepth 100000 in
theorem fx_run_2 : fxB 2 285212672 528482304 = true := by kernel_rfl
set_option maxRecDepth 100000 in
theorem fx_run_3 : fxB 3 301989888 528482304 = true := by kernel_rfl
set_option maxRecDepth 100000 in
theorem fx_run_4 : fxB 4 310378496 528482304 = true := by kernel_rfl
set_option maxRecDepth 100000 in
theorem fx_run_5 : fxB 5 318767104 528482304 = true := by kernel_rfl
set_option maxRecDepth 100000 in
theorem fx_run_6 : fxB 6 327155712 2141192192 = true := by kernel_rfl
set_option maxRecDepth 100000 in
theorem fx_run_7 : fxB 7 1409286144 4278190096 = true := by kernel_rfl
set_option maxRecDepth 100000 in
theorem fx_run_8 : fxB 8 335544320 2080374784 = true := by kernel_rfl
set_option maxRecDepth 100000 in
theorem fx_run_9 : fxB 9 872415232 2113929216 = true := by kernel_rfl
set_option maxRecDepth 100000 in
theorem fx_run_10 : fxB 10 905969664 2113929216 = true := by kernel_rfl
set_option maxRecDepth 100000 in
theorem fx_run_11 : fxB 11 3592355840 4263509023 = true := by kernel_rfl
set_option maxRecDepth 100000 in
theorem fx_run_12 : fxB 12 3556769792 4278190108 = true := by kernel_rfl
set_option maxRecDepth 100000 in
theorem fx_run_13 : fxB 13 3573751839 4294963231 = true := by kernel_rfl
set_option maxRecDepth 100000 in
theorem fx_run_14 : fxB 14 3573755935 4294963231 = true := by kernel_rfl
set_option maxRecDepth 100000 in
theorem fx_run_15 : fxB 15 3574595584 4291821568 = true := by kernel_rfl
set_option maxRecDepth 100000 in
theorem fx_run_16 : fxB 16 3573563423 4294504479 = true := by kernel_rfl
set_option maxRecDepth 100000 in
theorem fx_run_17 : fxB 17 3574071296 4292345856 = true := by kernel_rfl
set_option maxRecDepth 100000 in
theorem fx_run_18 : fxB 18 402653184 1056964608 = true := by kernel_rfl
set_option maxRecDepth 100000 in
theorem fx_run_19 : fxB 19 671088640 1006632960 = true := by kernel_rfl
set_option maxRecDepth 100000 in
theorem fx_run_20 : fxB 20 956301312 1056964608 = true := by kernel_rfl
set_option maxRecDepth 100000 in
theorem fx_run_21 : fxB 21 939524096 1059061760 = true := by kernel_rfl
set_option maxRecDepth 100000 in
theorem fx_run_22 : fxB 22 941623296 1059064832 = true := by kernel_rfl
set_option maxRecDepth 100000 in
theorem fx_run_23 : fxB 23 134217728 1056964608 = true := by kernel_rfl
set_option maxRecDepth 100000 in
theorem fx_run_24 : fxB 24 167772160 520093696 = true := by kernel_rfl
set_option maxRecDepth 100000 in
theorem fx_run_25 : fxB 25 184549376 522190848 = true := by kernel_rfl
set_option maxRecDepth 100000 in
theorem fx_run_26 : fxB 26 186646528 534773760 = true := by kernel_rfl
set_option maxRecDepth 100000 in
theorem fx_run_27 : fxB 27 436207616 534838272 = true := by kernel_rfl
set_option maxRecDepth 100000 in
theorem fx_run_28 : fxB 28 977272832 1071645712 = true := by kernel_rfl
set_option maxRecDepth 100000 in
theorem fx_run_29 : fxB 29 444596224 1071646720 = true := by kernel_rfl
set_option maxRecDepth 100000 in
theorem fx_run_30 : fxB 30 1522532352 2147418112 = true := by kernel_rfl
set_option maxRecDepth 100000 in
theorem fx_run_31 : fxB 31 448790528 2145386496 = true := by kernel_rfl
set_option maxRecDepth 100000 in
theorem fx_run_32 : fxB 32 452984832 2130706432 = true := by kernel_rfl
theorem fx_all : ∀ k, 1 ≤ k → k < 33 → ∃ b m, b < 4294967296 ∧ m < 4294967296 ∧ FixIs k b m
  | 0, h, _ => by omega
  | 1, _, _ => ⟨268435456, 520093696, by decide, by decide, fx_ok fx_run_1⟩
  | 2, _, _ => ⟨285212672, 528482304, by decide, by decide, fx_ok fx_run_2⟩
  | 3, _, _ => ⟨301989888, 528482304, by decide, by decide, fx_ok fx_run_3⟩
  | 4, _, _ => ⟨310378496, 528482304, by decide, by decide, fx_ok fx_run_4⟩
  | 5, _, _ => ⟨318767104, 528482304, by decide, by decide, fx_ok fx_run_5⟩
  | 6, _, _ => ⟨327155712, 2141192192, by decide, by decide, fx_ok fx_run_6⟩
  | 7, _, _ => ⟨1409286144, 4278190096, by decide, by decide, fx_ok fx_run_7⟩
  | 8, _, _ => ⟨335544320, 2080374784, by decide, by decide, fx_ok fx_run_8⟩
  | 9, _, _ => ⟨872415232, 2113929216, by decide, by decide, fx_ok fx_run_9⟩
  | 10, _, _ => ⟨905969664, 2113929216, by decide, by decide, fx_ok fx_run_10⟩
  | 11, _, _ => ⟨3592355840, 4263509023, by decide, by decide, fx_ok fx_run_11⟩
  | 12, _, _ => ⟨3556769792, 4278190108, by decide, by decide, fx_ok fx_run_12⟩
  | 13, _, _ => ⟨3573751839, 4294963231, by decide, by decide, fx_ok fx_run_13⟩
  | 14, _, _ => ⟨3573755935, 4294963231, by decide, by decide, fx_ok fx_run_14⟩
  | 15, _, _ => ⟨3574595584, 4291821568, by decide, by decide, fx_ok fx_run_15⟩
  | 16, _, _ => ⟨3573563423, 4294504479, by decide, by decide, fx_ok fx_run_16⟩
  | 17, _, _ => ⟨3574071296, 4292345856, by decide, by decide, fx_ok fx_run_17⟩
  | 18, _, _ => ⟨402653184, 1056964608, by decide, by decide, fx_ok fx_run_18⟩
  | 19, _, _ => ⟨671088640, 1006632960, by decide, by decide, fx_ok fx_run_19⟩
  | 20, _, _ => ⟨956301312, 1056964608, by decide, by decide, fx_ok fx_run_20⟩
  | 21, _, _ => ⟨939524096, 1059061760, by decide, by decide, fx_ok fx_run_21⟩
  | 22, _, _ => ⟨941623296, 1059064832, by decide, by decide, fx_ok fx_run_22⟩
  | 23, _, _ => ⟨134217728, 1056964608, by decide, by decide, fx_ok fx_run_23⟩
  | 24, _, _ => ⟨167772160, 520093696, by decide, by decide, fx_ok fx_run_24⟩
  | 25, _, _ => ⟨184549376, 522190848, by decide, by decide, fx_ok fx_run_25⟩
  | 26, _, _ => ⟨186646528, 534773760, by decide, by decide, fx_ok fx_run_26⟩
  | 27, _, _ => ⟨436207616, 534838272, by decide, by decide, fx_ok fx_run_27⟩
  | 28, _, _ => ⟨977272832, 1071645712, by decide, by decide, fx_ok fx_run_28⟩
  | 29, _, _ => ⟨444596224, 1071646720, by decide, by decide, fx_ok fx_run_29⟩
  | 30, _, _ => ⟨1522532352, 2147418112, by decide, by decide, fx_ok fx_run_30⟩
  | 31, _, _ => ⟨448790528, 2145386496, by decide, by decide, fx_ok fx_run_31⟩
  | 32, _, _ => ⟨452984832, 2130706432, by decide, by decide, fx_ok fx_run_32⟩
  | k + 33, _, h => by omega
end
end Go.Proofs.YtopfaapcekiojaaGreat.Sym
