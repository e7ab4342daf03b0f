/- What the reference guesses of any word, of any class: an instruction. -/
import Derived.Test.YtopfaapcekiojaaGreatDecG
namespace Go.Proofs.YtopfaapcekiojaaGreat.Sym
open Go Go.RowKit Go.Proofs.YtopfaapcekiojaaGreat
set_option linter.unusedVariables false
noncomputable section
def qI (pc : PC) (v : SV) : Bool := match v with
  | .p (.agg l) => instL l && i64P pc l
  | _ => false
def gaK (k : Nat) : Bool := chkB (decCx [(8, 0, 4294967295)] []) 31 [.p (.c (.int .u32 (.var 8))), .p (.c (.int .i64 (.lit (.ofNat k))))] qI
def GuessAny (w : Int) (k : Nat) : Prop := ∃ y : Ins, y.wf ∧ ∀ W, Calls Tryz.prog 31 #[.int .u32 w, .int .i64 (.ofNat k)] W (Ret y.val W)
theorem ga_ok {k : Nat} (h : gaK k = true) (w : Int) (hw : U32 w) : GuessAny w k := by
  have w0 : World := default
  have hb : BdOk [(8, 0, 4294967295)] (insI y0 (fun _ => w)) := bd_cons (show 0 ≤ w ∧ w ≤ 4294967295 from ⟨hw.1, Int.le_of_lt_add_one (by have := hw.2; show w < _; omega)⟩) (by intro i l h e; cases e)
  unfold gaK at h
  obtain ⟨v, pc, ok, hq, hc⟩ := chkB_calls h (ρ := encEnv y0 (fun _ => w) (fun _ => false) w0) (dec_cxok hb (by intro p hp; cases hp)) dec_sums insM (vals := [.int .u32 w, .int .i64 (.ofNat k)]) rfl
  unfold qI at hq
  split at hq
  · rename_i l
    simp only [Bool.and_eq_true] at hq
    obtain ⟨y, hy, _, hd⟩ := instL_den hq.1 ok hq.2
    exact ⟨y, hy, hc _ hd⟩
  · cases hq
set_option maxRecDepth 100000 in
theorem ga_run_1 : gaK 1 = true := by kernel_rfl
set_option maxRecDepth 100000 in
theorem ga_run_2 : gaK 2 = true := by kernel_rfl
set_option maxRecDepth 100000 in
theorem ga_run_3 : gaK 3 = true := by kernel_rfl
set_option maxRecDepth 100000 in
theorem ga_run_4 : gaK 4 = true := by kernel_rfl
set_option maxRecDepth 100000 in
theorem ga_run_5 : gaK 5 = true := by kernel_rfl
set_option maxRecDepth 100000 in
theorem ga_run_6 : gaK 6 = true := by kernel_rfl
set_option maxRecDepth 100000 in
theorem ga_run_7 : gaK 7 = true := by kernel_rfl
set_option maxRecDepth 100000 in
theorem ga_run_8 : gaK 8 = true := by kernel_rfl
set_option maxRecDepth 100000 in
theorem ga_run_9 : gaK 9 = true := by kernel_rfl
set_option maxRecDepth 100000 in
theorem ga_run_10 : gaK 10 = true := by kernel_rfl
set_option maxRecDepth 100000 in
theorem ga_run_11 : gaK 11 = true := by kernel_rfl
set_option maxRecDepth 100000 in
theorem ga_run_12 : gaK 12 = true := by kernel_rfl
set_option maxRecDepth 100000 in
theorem ga_run_13 : gaK 13 = true := by kernel_rfl
set_option maxRecDepth 100000 in
theorem ga_run_14 : gaK 14 = true := by kernel_rfl
set_option maxRecDepth 100000 in
theorem ga_run_15 : gaK 15 = true := by kernel_rfl
set_option maxRecDepth 100000 in
theorem ga_run_16 : gaK 16 = true := by kernel_rfl
set_option maxRecDepth 100000 in
theorem ga_run_17 : gaK 17 = true := by kernel_rfl
set_option maxRecDepth 100000 in
theorem ga_run_18 : gaK 18 = true := by kernel_rfl
set_option maxRecDepth 100000 in
theorem ga_run_19 : gaK 19 = true := by kernel_rfl
set_option maxRecDepth 100000 in
theorem ga_run_20 : gaK 20 = true := by kernel_rfl
set_option maxRecDepth 100000 in
theorem ga_run_21 : gaK 21 = true := by kernel_rfl
set_option maxRecDepth 100000 in
theorem ga_run_22 : gaK 22 = true := by kernel_rfl
set_option maxRecDepth 100000 in
theorem ga_run_23 : gaK 23 = true := by kernel_rfl
set_option maxRecDepth 100000 in
theorem ga_run_24 : gaK 24 = true := by kernel_rfl
set_option maxRecDepth 100000 in
theorem ga_run_25 : gaK 25 = true := by kernel_rfl
set_option maxRecDepth 100000 in
theorem ga_run_26 : gaK 26 = true := by kernel_rfl
set_option maxRecDepth 100000 in
theorem ga_run_27 : gaK 27 = true := by kernel_rfl
set_option maxRecDepth 100000 in
theorem ga_run_28 : gaK 28 = true := by kernel_rfl
set_option maxRecDepth 100000 in
theorem ga_run_29 : gaK 29 = true := by kernel_rfl
set_option maxRecDepth 100000 in
theorem ga_run_30 : gaK 30 = true := by kernel_rfl
set_option maxRecDepth 100000 in
theorem ga_run_31 : gaK 31 = true := by kernel_rfl
set_option maxRecDepth 100000 in
theorem ga_run_32 : gaK 32 = true := by kernel_rfl
theorem ga_all : ∀ k, 1 ≤ k → k < 33 → gaK k = true
  | 0, h, _ => by omega
  | 1, _, _ => ga_run_1
  | 2, _, _ => ga_run_2
  | 3, _, _ => ga_run_3
  | 4, _, _ => ga_run_4
  | 5, _, _ => ga_run_5
  | 6, _, _ => ga_run_6
  | 7, _, _ => ga_run_7
  | 8, _, _ => ga_run_8
  | 9, _, _ => ga_run_9
  | 10, _, _ => ga_run_10
  | 11, _, _ => ga_run_11
  | 12, _, _ => ga_run_12
  | 13, _, _ => ga_run_13
  | 14, _, _ => ga_run_14
  | 15, _, _ => ga_run_15
  | 16, _, _ => ga_run_16
  | 17, _, _ => ga_run_17
  | 18, _, _ => ga_run_18
  | 19, _, _ => ga_run_19
  | 20, _, _ => ga_run_20
  | 21, _, _ => ga_run_21
  | 22, _, _ => ga_run_22
  | 23, _, _ => ga_run_23
  | 24, _, _ => ga_run_24
  | 25, _, _ => ga_run_25
  | 26, _, _ => ga_run_26
  | 27, _, _ => ga_run_27
  | 28, _, _ => ga_run_28
  | 29, _, _ => ga_run_29
  | 30, _, _ => ga_run_30
  | 31, _, _ => ga_run_31
  | 32, _, _ => ga_run_32
  | k + 33, _, h => by omega
end
end Go.Proofs.YtopfaapcekiojaaGreat.Sym
