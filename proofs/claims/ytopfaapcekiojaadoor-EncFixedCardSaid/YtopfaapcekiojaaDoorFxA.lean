/- What is fixed of each class: Base, and the words that Encode gives. -/
import Derived.Test.YtopfaapcekiojaaDoorEncE9
import Derived.Test.YtopfaapcekiojaaDoorLogQ
import Derived.Test.YtopfaapcekiojaaDoorInsF
namespace Go.Proofs.YtopfaapcekiojaaDoor.Sym
open Go Go.RowKit Go.Proofs.YtopfaapcekiojaaDoor
set_option linter.unusedVariables false
noncomputable section
theorem zero_none (w : Nat) : ¬ HasPat 0 w := by
  rintro ⟨⟨s, o, t⟩, ⟨p1, p2, p3, p4, p5⟩, h⟩
  dsimp only at *
  have hs : 0 < s := by omega
  have := congrArg (fun x => Nat.testBit x ((s - t) % s)) h
  simp only [valN, natOf_bit, Nat.zero_testBit] at this
  have hi : (s - t) % s < w := by have := Nat.mod_lt (s - t) hs; omega
  have h1 : oneAt s o t ((s - t) % s) = true := by
    rw [oneAt_eq, Nat.mod_add_mod, show s - t + t = s by omega, Nat.mod_self]
    exact decide_eq_true (by omega)
  rw [h1] at this
  simp [hi] at this
theorem field_zero : encF 0 32 = 0 ∧ patErr 0 32 = 20 := by
  have h : patErr 0 32 = 20 := by
    show patE 0 32 = 20
    unfold patE
    rw [if_neg (zero_none 32)]
  obtain ⟨a, b, c⟩ := enc_none (v := 0) (w := 32) (by rw [h]; decide)
  refine ⟨?_, h⟩
  unfold encF
  rw [a, b, c]
  rfl
def isZ (e w : SE) : Bool := match e, w with
  | .lit (.ofNat 0), .lit (.ofNat 32) => true
  | _, _ => false
def fieldZ (pc : PC) (H : List (Nat × Blk)) (args : List SV) : Option SV := match args with
  | [.p (.c (.int .u64 e)), .p (.c (.int .i64 w))] => match isZ e w with
    | true => some (.tup [.c (.int .i64 (.lit 0)), .c (.int .i64 (.lit 20))])
    | false => fieldS pc H args
  | _ => none
theorem isZ_ok {e w : SE} (h : isZ e w = true) : e = .lit 0 ∧ w = .lit 32 := by
  unfold isZ at h
  split at h
  · exact ⟨rfl, rfl⟩
  · cases h
theorem fieldZ_s {cx : Ctx} {ρ : Env} (hg : GoodL ρ) {f : FuncId} (h : ∀ (v w : Int) (_ : U64 v) (W : World), Calls cx.P f #[.int .u64 v, .int .i64 w] W (Ret (.tuple #[.int .i64 (encF v w), .int .i64 (patErr v w)]) W)) : SumOk cx ρ f fieldZ := by
  intro pc H args v hv ok L β vals w n hW ha
  unfold fieldZ at hv
  split at hv
  · rename_i e w'
    split at hv
    · rename_i hz
      obtain ⟨rfl, rfl⟩ := isZ_ok hz
      cases hv
      cases ha
      have := h 0 32 ⟨by decide, by decide⟩ w
      rw [field_zero.1, field_zero.2] at this
      exact ⟨_, rfl, this⟩
    · exact field_s hg h pc H _ v hv ok L β vals w n hW ha
  · cases hv
def decSums : Sums := [(50, fieldZ)] ++ sm_enc_Encode
theorem ok_decSums : AllOk Tryd.prog GoodL decSums := by
  refine AllOk.app ?_ ok_enc_Encode
  intro cx ρ hg _ hP p hp
  simp only [List.mem_cons, List.not_mem_nil, or_false] at hp
  subst hp
  exact fieldZ_s hg (fun v w hv W => by rw [hP]; exact field_any v w hv W)
def decCx (bd : List (Nat × Int × Int)) (ax : List (SE × Bool)) : Ctx := { P := Tryd.prog, bd := bd, fb := [], sums := decSums, ax := ax }
section
variable {y : Ins} {e : Nat → Int} {t : Nat → Bool} {w : World} {bd : List (Nat × Int × Int)} {ax : List (SE × Bool)}
theorem dec_cxok (hb : BdOk bd (insI y e)) (hax : ∀ p ∈ ax, p.1.tru (insEnv y e t w) = p.2) : (decCx bd ax).Ok (insEnv y e t w) := ⟨hb, (by intro i l h e; cases e), fun _ => rfl, insM, hax⟩
theorem dec_sums (W : World) : SumsOk (decCx bd ax) ((insEnv y e t w).at W) := ok_decSums.sums (insGood y e t w) (fun _ => rfl) rfl rfl
end
theorem pcOk_at {ρ : Env} {pc : PC} {w : World} (h : PcOk ρ pc) : PcOk (ρ.at w) pc := by
  refine ⟨h.bd, h.fb, fun e he => ?_, fun f hf => by rw [tru_at]; exact h.fs f hf, fun f hf => by rw [tru_at]; exact h.cs f hf, h.good⟩
  obtain ⟨a, b, c, d, n⟩ := h.iv e he
  exact ⟨by rw [int_at]; exact a, by rw [int_at]; exact b, by rw [int_at]; exact c, by rw [int_at]; exact d, by rw [int_at]; exact n⟩
/-- Encode at an instruction's cells -/
def encAt (pc : PC) (l : List SC) : Option (SE × SE) := match tplsSum tp_enc_Encode pc [] [.p (.agg l)] with
  | some (.tup [.c (.int .u32 w), .c (.int .i64 z)]) => some (w, z)
  | _ => none
theorem encAt_ok {pc : PC} {l : List SC} {a z : SE} (h : encAt pc l = some (a, z)) {ρ : Env} (hg : GoodL ρ) (one : ∀ i, (ρ.v i).oneCell' = true) (ok : PcOk ρ pc) {v : Value} (hv : ∀ β, (SP.agg l).den ρ β = some v) (W : World) :
    Calls Tryd.prog 5 #[v] W (Ret (.tuple #[.int .u32 (a.int ρ), .int .i64 (z.int ρ)]) W) := by
  unfold encAt at h
  split at h
  · rename_i a' z' ht
    cases h
    have ok' : PcOk (ρ.at W) pc := pcOk_at ok
    have hA : denA (ρ.at W) noLay [SV.p (.agg l)] = some [v] := by
      rw [denA_at]
      have : (SV.p (.agg l)).den ρ noLay = some v := hv noLay
      unfold denA
      rw [this]
      rfl
    have hgW : GoodL (ρ.at W) := hg
    obtain ⟨x, hx, hc⟩ := ok_enc_Encode (decCx [] []) (ρ.at W) hgW one rfl (5, tplsSum tp_enc_Encode) List.mem_cons_self pc [] [.p (.agg l)] _ ht ok' ⟨[], []⟩ noLay [v] W 0 (WR.start _ (ρ.at W) W 0) hA
    have e : some (Value.tuple #[.int .u32 (a.int (ρ.at W)), .int .i64 (z.int (ρ.at W))]) = some x := hx
    rw [int_at, int_at] at e
    cases e
    exact hc
  · cases h
/-- a number is not nought -/
def neBy : Nat → PC → SE → Bool
  | 0, _, _ => false
  | n + 1, pc, a => okOr pc fun pc => match a with
    | .ite c x y => match decT pc c with
      | some true => neBy n pc x
      | some false => neBy n pc y
      | none => match neBy n (assume pc c true) x with
        | true => neBy n (assume pc c false) y
        | false => false
    | a => match dec pc (.bin .eq a (.lit 0)) with
      | some false => true
      | _ => false
theorem neBy_ok {ρ : Env} : ∀ {n : Nat} {pc : PC} {a : SE}, PcOk ρ pc → neBy n pc a = true → a.int ρ ≠ 0
  | 0, _, _, _, h => by cases h
  | n + 1, pc, a, ok, h => by
    unfold neBy at h
    replace h := okOr_ok ok h
    split at h
    · rename_i c x y
      show (if c.tru ρ then x.int ρ else y.int ρ) ≠ 0
      split at h
      · rename_i hd; rw [if_pos (decT_ok ok hd)]; exact neBy_ok ok h
      · rename_i hd; rw [if_neg (by rw [decT_ok ok hd]; simp)]; exact neBy_ok ok h
      · split at h
        · rename_i hx
          cases hc : c.tru ρ with
          | true => rw [if_pos rfl]; exact neBy_ok (assume_ok ok hc) hx
          | false => rw [if_neg (by simp)]; exact neBy_ok (assume_ok ok hc) h
        · cases h
    · split at h
      · rename_i hd
        have e : (a.int ρ == 0) = false := dec_ok ok hd
        simpa using e
      · cases h
def cellsI (op : SE) : List SC := [.int .i64 op, .bool (.bvar 0), .bool (.bvar 1), .int .i64 (.var 0), .int .i64 (.var 1), .int .i64 (.var 2), .int .i64 (.var 3), .int .i64 (.var 4), .int .i64 (.var 5), .int .i64 (.var 6)]
theorem cells_den {y : Ins} {e : Nat → Int} {t : Nat → Bool} {w : World} {op : SE} (h : op.int (insEnv y e t w) = y.op) (β : Lay) : (SP.agg (cellsI op)).den (insEnv y e t w) β = some y.val := by
  show some (Value.agg #[.int .i64 (op.int (insEnv y e t w)), .bool y.x, .bool y.s, .int .i64 y.rd, .int .i64 y.rn, .int .i64 y.rm, .int .i64 y.ra, .int .i64 y.a, .int .i64 y.b, .int .i64 y.c]) = _
  rw [h]; rfl
def isYes (o : Option Bool) : Bool := match o with
  | some true => true
  | _ => false
theorem isYes_ok {o : Option Bool} (h : isYes o = true) : o = some true := by
  unfold isYes at h
  split at h
  · rfl
  · cases h
/-- some bits of a number are these, choice by choice -/
def mtGo (m b : Nat) : Nat → PC → SE → Bool
  | 0, _, _ => false
  | n + 1, pc, w => okOr pc fun pc => match w with
    | .ite c x y => match decT pc c with
      | some true => mtGo m b n pc x
      | some false => mtGo m b n pc y
      | none => match mtGo m b n (assume pc c true) x with
        | true => mtGo m b n (assume pc c false) y
        | false => false
    | w => isYes (decT pc (mkMt pc m b w))
theorem mtGo_ok {m b : Nat} {ρ : Env} : ∀ {n : Nat} {pc : PC} {w : SE}, PcOk ρ pc → mtGo m b n pc w = true → mtV m b (w.int ρ) = true
  | 0, _, _, _, h => by cases h
  | n + 1, pc, w, ok, h => by
    unfold mtGo at h
    replace h := okOr_ok ok h
    split at h
    · rename_i c x y
      show mtV m b (if c.tru ρ then x.int ρ else y.int ρ) = true
      split at h
      · rename_i hd; rw [if_pos (decT_ok ok hd)]; exact mtGo_ok ok h
      · rename_i hd; rw [if_neg (by rw [decT_ok ok hd]; simp)]; exact mtGo_ok ok h
      · split at h
        · rename_i hx
          cases hc : c.tru ρ with
          | true => rw [if_pos rfl]; exact mtGo_ok (assume_ok ok hc) hx
          | false => rw [if_neg (by simp)]; exact mtGo_ok (assume_ok ok hc) h
        · cases h
    · have := decT_ok ok (isYes_ok h)
      rw [mkMt_ok ok] at this
      exact this
def baseV (b m : Nat) : SV := .tup [.c (.int .u32 (.lit (.ofNat b))), .c (.int .u32 (.lit (.ofNat m))), .c (.int .i64 (.lit 0))]
def baseQ (b m : Nat) (pc : PC) (v : SV) : Bool := v.same (baseV b m)
def fxW (m b : Nat) (bd : List (Nat × Int × Int)) (l : List SC) : Bool := match encAt (PC.start (decCx bd [])) l with
  | some (.ite c x w, z) => okOr (assume (PC.start (decCx bd [])) c true) (fun p => neBy 100 p z) && okOr (assume (PC.start (decCx bd [])) c false) (fun p => mtGo m b 20 p w)
  | _ => false
def fxB (k b m : Nat) : Bool := chkB (decCx [] []) 6 [.p (.c (.int .i64 (.lit (.ofNat k))))] (baseQ b m) && fxW m b (bdK k k 7) (cellsI (.lit k))
/-- what is fixed of a class -/
def FixIs (k b m : Nat) : Prop := (∀ W, Calls Tryd.prog 6 #[.int .i64 (.ofNat k)] W (Ret (.tuple #[.int .u32 (.ofNat b), .int .u32 (.ofNat m), .int .i64 0]) W)) ∧
  ∀ y : Ins, y.wf → y.op = k → ∃ v z, (∀ W, Calls Tryd.prog 5 #[y.val] W (Ret (.tuple #[.int .u32 v, .int .i64 z]) W)) ∧ (z = 0 → mtV m b v = true)
theorem fx_ok {k b m : Nat} (h : fxB k b m = true) : FixIs k b m := by
  unfold fxB at h
  simp only [Bool.and_eq_true] at h
  have w0 : World := default
  refine ⟨?_, fun y hy hk => ?_⟩
  · obtain ⟨v, pc, ok, hq, hc⟩ := chkB_calls h.1 (ρ := insEnv y0 (fun _ => 0) (fun _ => false) w0) (dec_cxok (by intro i l h e; cases e) (by intro p hp; cases hp)) dec_sums insM (vals := [.int .i64 (.ofNat k)]) rfl
    have e : v = baseV b m := SV.same_eq hq
    subst e
    exact hc _ fun β => rfl
  · have he : ∀ i : Nat, i + 8 < 7 → I64 ((fun _ => 0 : Nat → Int) i) := fun _ _ => z64
    have hb := bdK_ok hy he (lo := k) (hi := k) (n := 7) (by omega) (by omega)
    have hl : ∀ β, (SP.agg (cellsI (.lit (k : Int)))).den (insEnv y (fun _ => 0) (fun _ => false) w0) β = some y.val := cells_den (op := .lit k) hk.symm
    have cok : (decCx (bdK k k 7) []).Ok (insEnv y (fun _ => 0) (fun _ => false) w0) := dec_cxok hb (by intro p hp; cases hp)
    have ok : PcOk (insEnv y (fun _ => 0) (fun _ => false) w0) (PC.start (decCx (bdK k k 7) [])) := cok.start
    have h2 := h.2
    unfold fxW at h2
    split at h2
    · rename_i c x w z hE
      simp only [Bool.and_eq_true] at h2
      refine ⟨(SE.ite c x w).int (insEnv y (fun _ => 0) (fun _ => false) w0), z.int (insEnv y (fun _ => 0) (fun _ => false) w0), encAt_ok hE (insGood y _ _ w0) (fun _ => rfl) ok hl, fun z0 => ?_⟩
      have hc : c.tru (insEnv y (fun _ => 0) (fun _ => false) w0) = false := by
        cases hc : c.tru (insEnv y (fun _ => 0) (fun _ => false) w0) with
        | false => rfl
        | true => exact absurd z0 (neBy_ok (assume_ok ok hc) (okOr_ok (assume_ok ok hc) h2.1))
      have hi : (SE.ite c x w).int (insEnv y (fun _ => 0) (fun _ => false) w0) = w.int (insEnv y (fun _ => 0) (fun _ => false) w0) := by show (if c.tru _ then _ else _) = _; rw [hc]; rfl
      rw [hi]
      exact mtGo_ok (assume_ok ok hc) (okOr_ok (assume_ok ok hc) h2.2)
    · cases h2
def noB (bd : List (Nat × Int × Int)) (l : List SC) : Bool := match encAt (PC.start (decCx bd [])) l with
  | some (w, z) => neBy 100 (PC.start (decCx bd [])) z
  | none => false
theorem no_ok {y : Ins} {e : Nat → Int} {t : Nat → Bool} {w0 : World} {bd : List (Nat × Int × Int)} (hb : BdOk bd (insI y e)) {l : List SC} (hl : ∀ β, (SP.agg l).den (insEnv y e t w0) β = some y.val) (h : noB bd l = true) : ∃ v z, (∀ W, Calls Tryd.prog 5 #[y.val] W (Ret (.tuple #[.int .u32 v, .int .i64 z]) W)) ∧ z ≠ 0 := by
  have cok : (decCx bd []).Ok (insEnv y e t w0) := dec_cxok hb (by intro p hp; cases hp)
  have ok : PcOk (insEnv y e t w0) (PC.start (decCx bd [])) := cok.start
  unfold noB at h
  split at h
  · rename_i w z he
    exact ⟨w.int (insEnv y e t w0), z.int (insEnv y e t w0), encAt_ok he (insGood y e t w0) (fun _ => rfl) ok hl, neBy_ok ok h⟩
  · cases h
theorem no_0 : noB (bdK 0 0 7) (cellsI (.lit 0)) = true := by kernel_rfl
theorem no_lo : noB (bdK (-9223372036854775808) (-1) 7) (cellsI (.var 7)) = true := by kernel_rfl
theorem no_hi : noB (bdK 33 9223372036854775807 7) (cellsI (.var 7)) = true := by kernel_rfl
end
end Go.Proofs.YtopfaapcekiojaaDoor.Sym
