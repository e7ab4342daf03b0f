/- Logical immediates: there and back. -/
import Derived.Test.YtopfaapcekiojaaGreatLogK
import Derived.Test.YtopfaapcekiojaaGreatEncS
import Derived.Test.YtopfaapcekiojaaGreatSymJ
namespace Go.Proofs.YtopfaapcekiojaaGreat
open Go.RowKit Go.Sort
set_option linter.unusedVariables false

theorem szI_enc (s o : Nat) (h : Sz s) (h1 : 1 ≤ o) (h2 : o < s) : szI (if s = 64 then 1 else 0) (topI (s : Int) + (o : Int) - 1) = (s : Int) := by
  have ht : topI (s : Int) = if 32 ≤ (s : Int) then 0 else 64 - 2 * (s : Int) := rfl
  rw [ht]
  unfold szI
  rcases h with rfl | rfl | rfl | rfl | rfl | rfl <;> simp <;> omega
theorem dec_enc (v w : Int) (hv : U64 v) (h : patErr v w = 0) : decE (encN v w) (encR v w) (encM v w) w = 0 ∧ decI (encN v w) (encR v w) (encM v w) w = v := by
  rcases patErr_cases v w with ⟨_, hw, ⟨p1, p2, p3, p4, p5⟩, hval⟩ | ⟨he, _⟩
  · have hs := szI_enc _ _ p1 p3 p4
    have em : encM v w = topI ((patP v w).1 : Int) + ((patP v w).2.1 : Int) - 1 := if_pos h
    have en : encN v w = if (patP v w).1 = 64 then 1 else 0 := rfl
    have er : encR v w = ((patP v w).2.2 : Int) := rfl
    have hb := enc_bounds v w
    have hsz : szI (encN v w) (encM v w) = ((patP v w).1 : Int) := by rw [en, em]; exact hs
    have ho : encM v w - topI ((patP v w).1 : Int) + 1 = ((patP v w).2.1 : Int) := by rw [em]; omega
    have hwn : ((w.toNat : Nat) : Int) = w := by omega
    have hs2 : 2 ≤ (patP v w).1 := by unfold Sz at p1; omega
    have hok : okD (encN v w) (encR v w) (encM v w) w = true := by
      unfold okD
      rw [hsz, ho, er]
      simp only [Bool.and_eq_true, decide_eq_true_eq, mayB_iff]
      omega
    have hE : decE (encN v w) (encR v w) (encM v w) w = 0 := by
      unfold decE
      rw [hok, show widB w = true by simpa [widB] using hw]
      rfl
    refine ⟨hE, ?_⟩
    unfold decI
    rw [if_pos hE, hsz, ho, er]
    simp only [Int.toNat_natCast]
    rw [hval]
    exact Int.toNat_of_nonneg hv.1
  · omega
theorem enc_dec (n r m w : Int) (h : decE n r m w = 0) : U64 (decI n r m w) ∧ patErr (decI n r m w) w = 0 ∧ encN (decI n r m w) w = n ∧ encR (decI n r m w) w = r ∧ encM (decI n r m w) w = m := by
  have hwid : widB w = true := by
    unfold decE at h
    by_cases hw : widB w = true
    · exact hw
    · rw [if_neg hw] at h; cases h
  have hok : okD n r m w = true := by
    unfold decE at h
    rw [if_pos hwid] at h
    by_cases ho : okD n r m w = true
    · exact ho
    · rw [if_neg ho] at h; cases h
  have hw : w = 32 ∨ w = 64 := by simpa [widB] using hwid
  have hok2 := hok
  unfold okD at hok2
  simp only [Bool.and_eq_true, decide_eq_true_eq] at hok2
  obtain ⟨⟨⟨⟨n1, n2⟩, m1⟩, m2⟩, hmay⟩ := hok2
  have hsz := szI_sz n m w _ r m1 hmay
  have hP := pat_of hsz hmay
  have hw2 : w.toNat = 32 ∨ w.toNat = 64 := by omega
  obtain ⟨q1, q2, q3, q4, q5, q6⟩ := (mayB_iff _ _ _ _).1 hmay
  have hd : decI n r m w = ((valN (szI n m).toNat (m - topI (szI n m) + 1).toNat r.toNat w.toNat : Nat) : Int) := if_pos h
  have hlt := lt64 (valN_lt (szI n m).toNat (m - topI (szI n m) + 1).toNat r.toNat w.toNat) (by omega)
  have hU : U64 (decI n r m w) := by rw [hd]; exact ⟨by omega, by omega⟩
  have hip : IsPat (decI n r m w).toNat w.toNat (szI n m).toNat (m - topI (szI n m) + 1).toNat r.toNat := ⟨hP, by rw [hd, Int.toNat_natCast]⟩
  have hp : patP (decI n r m w) w = ((szI n m).toNat, (m - topI (szI n m) + 1).toNat, r.toNat) := (if_pos hwid).trans (patV_is hw2 hip)
  have he : patErr (decI n r m w) w = 0 := (if_pos hwid).trans (if_pos ⟨((szI n m).toNat, (m - topI (szI n m) + 1).toNat, r.toNat), hip⟩)
  refine ⟨hU, he, ?_, ?_, ?_⟩
  · unfold encN
    rw [hp]
    dsimp only
    have hn : n = 0 ∨ n = 1 := by omega
    rcases hn with rfl | rfl
    · rw [if_neg]
      intro e
      have : szI 0 m ≤ 32 := by unfold szI; (repeat' split) <;> omega
      omega
    · rw [if_pos]; rfl
  · unfold encR
    rw [hp]
    dsimp only
    omega
  · unfold encM
    rw [if_pos he, hp]
    dsimp only
    rw [Int.toNat_of_nonneg (by omega), Int.toNat_of_nonneg (by omega)]
    omega
theorem field_back (f w : Int) (h : fldE f w = 0) : U64 (fldI f w) ∧ patErr (fldI f w) w = 0 ∧ encF (fldI f w) w = f := by
  have hwid : widB w = true := by
    unfold fldE at h
    by_cases hw : widB w = true
    · exact hw
    · rw [if_neg hw] at h; cases h
  have hf : 0 ≤ f ∧ f < 8192 := by
    unfold fldE at h
    rw [if_pos hwid] at h
    by_cases hf : 0 ≤ f ∧ f < 8192
    · exact hf
    · rw [if_neg hf] at h; cases h
  have hE : decE (f / 4096) (f / 64 % 64) (f % 64) w = 0 := by
    unfold fldE at h
    rw [if_pos hwid, if_pos hf] at h
    exact h
  have hI : fldI f w = decI (f / 4096) (f / 64 % 64) (f % 64) w := by
    unfold fldI
    rw [if_pos hwid, if_pos hf]
  obtain ⟨h1, h2, h3, h4, h5⟩ := enc_dec _ _ _ _ hE
  rw [hI]
  refine ⟨h1, h2, ?_⟩
  unfold encF
  rw [h3, h4, h5]
  omega
end Go.Proofs.YtopfaapcekiojaaGreat

/- The contracts of logimm.Value and Field, there and back. -/
namespace Go.Proofs.YtopfaapcekiojaaGreat.Sym
open Go Go.RowKit Go.Proofs.YtopfaapcekiojaaGreat
noncomputable section
set_option linter.unusedVariables false

/-- the letters of functions: 1, 2: Field; 3 (64 bits), 5 (32 bits), 4: Value -/
def GoodM (ρ : Env) : Prop := GoodL ρ ∧ (∀ a b c d, ρ.f 3 a b c d = fldI a 64) ∧ (∀ a b c d, ρ.f 5 a b c d = fldI a 32) ∧ (∀ a b c d, ρ.f 4 a b c d = fldE a b)
theorem keepsM : Keeps GoodM := fun _ h _ _ _ => h
def fbM : List (Nat × Int × Int) := [(3, 0, 18446744073709551615), (5, 0, 4294967295), (1, 0, 8191)]
def isYes (o : Option Bool) : Bool := match o with
  | some true => true
  | _ => false
theorem isYes_ok {o : Option Bool} (h : isYes o = true) : o = some true := by
  unfold isYes at h
  split at h
  · rfl
  · cases h
/-- a number that Value gave: the field it was given -/
def backF (pc : PC) (e : SE) (w : SE) : Option SE := match e, w with
  | .app 3 f _ _ _, .lit 64 => match isYes (dec pc (.bin .eq (.app 4 f w (.lit 0) (.lit 0)) (.lit 0))) with
    | true => some f
    | false => none
  | .app 5 f _ _ _, .lit 32 => match isYes (dec pc (.bin .eq (.app 4 f w (.lit 0) (.lit 0)) (.lit 0))) with
    | true => some f
    | false => none
  | _, _ => none
def fieldM (pc : PC) (H : List (Nat × Blk)) (args : List SV) : Option SV := match args with
  | [.p (.c (.int .u64 e)), .p (.c (.int .i64 w))] => match backF pc e w with
    | some f => some (.tup [.c (.int .i64 f), .c (.int .i64 (.lit 0))])
    | none => fieldS pc H args
  | _ => none
/-- a field that Field gave: the number it was given -/
def backV (pc : PC) (f : SE) (w : SE) : Option SE := match f with
  | .app 1 v w' _ _ => match w'.same w && (low (bnd pc v) 64 && isYes (dec pc (.bin .eq (.app 2 v w (.lit 0) (.lit 0)) (.lit 0)))) with
    | true => some (mkBits pc 0 64 v)
    | false => none
  | _ => none
def valueM (pc : PC) (_ : List (Nat × Blk)) (args : List SV) : Option SV := match args with
  | [.p (.c (.int .i64 f)), .p (.c (.int .i64 (.lit w)))] => match backV pc f (.lit w) with
    | some v => some (.tup [.c (.int .u64 v), .c (.int .i64 (.lit 0))])
    | none => match sgnd (bnd pc f) 63 with
      | true => match intSame w 64 with
        | true => some (.tup [.c (.int .u64 (.app 3 f (.lit 64) (.lit 0) (.lit 0))), .c (.int .i64 (.app 4 f (.lit 64) (.lit 0) (.lit 0)))])
        | false => match intSame w 32 with
          | true => some (.tup [.c (.int .u64 (.app 5 f (.lit 32) (.lit 0) (.lit 0))), .c (.int .i64 (.app 4 f (.lit 32) (.lit 0) (.lit 0)))])
          | false => none
      | false => none
  | _ => none
/-- a number, by its head -/
def numK : SE → Bool
  | .lit _ | .var _ | .un (.bits _ _) _ | .app _ _ _ _ _ | .ite _ _ _ => true
  | _ => false
theorem numK_ok {ρ : Env} {g : SE} (h : numK g = true) : g.den ρ = (g.int ρ, false) := by
  unfold numK at h
  split at h <;> first | rfl | (cases h)
/-- Field of a number that Value gave -/
def simpF (pc : PC) : SE → SE
  | .un o a => .un o (simpF pc a)
  | .bin o a b => .bin o (simpF pc a) (simpF pc b)
  | .ite c a b => .ite (simpF pc c) (simpF pc a) (simpF pc b)
  | .bite c a b => .bite (simpF pc c) (simpF pc a) (simpF pc b)
  | .app f a b c d => match f, a with
    | 1, .un (.bits 0 64) v => match backF pc v b with
      | some g => match numK g with
        | true => g
        | false => .app f a b c d
      | none => .app f a b c d
    | 2, .un (.bits 0 64) v => match backF pc v b with
      | some _ => .lit 0
      | none => .app f a b c d
    | _, _ => .app f a b c d
  | e => e
/-- a value's field stands for it -/
theorem back_value {v w : Int} (hv : U64 v) (h : patErr v w = 0) : fldE (encF v w) w = 0 ∧ fldI (encF v w) w = v := by
  obtain ⟨h1, h2⟩ := dec_enc v w hv h
  obtain ⟨b1, b2, b3, b4, b5⟩ := enc_bounds v w
  have hw : w = 32 ∨ w = 64 := by
    rcases patErr_cases v w with q | q
    · exact q.2.1
    · rcases q.1 with q | q <;> omega
  have hb : widB w = true := by unfold widB; rcases hw with rfl | rfl <;> rfl
  have e0 : encF v w = encN v w * 4096 + encR v w * 64 + encM v w := rfl
  have e1 : encF v w / 4096 = encN v w := by omega
  have e2 : encF v w / 64 % 64 = encR v w := by omega
  have e3 : encF v w % 64 = encM v w := by omega
  have e4 : 0 ≤ encF v w ∧ encF v w < 8192 := by omega
  unfold fldE fldI
  rw [if_pos hb, if_pos hb, if_pos e4, if_pos e4, e1, e2, e3]
  exact ⟨h1, h2⟩
theorem encF_bd (v w : Int) : 0 ≤ encF v w ∧ encF v w ≤ 8191 := by
  obtain ⟨b1, b2, b3, b4, b5⟩ := enc_bounds v w
  have e0 : encF v w = encN v w * 4096 + encR v w * 64 + encM v w := rfl
  omega
theorem fldI_bd (f : Int) (w : Nat) : 0 ≤ fldI f w ∧ fldI f w < ((2 ^ w : Nat) : Int) := by
  have hp : 0 < 2 ^ w := Nat.two_pow_pos w
  unfold fldI decI
  split
  · split
    · split
      · exact ⟨Int.natCast_nonneg _, Int.ofNat_lt.2 (by simpa using valN_lt _ _ _ w)⟩
      · omega
    · omega
  · omega
theorem decEq_ok {ρ : Env} {pc : PC} (ok : PcOk ρ pc) {a : SE} {c : Int} (h : isYes (dec pc (.bin .eq a (.lit c))) = true) : a.int ρ = c := by
  have := dec_ok ok (isYes_ok h)
  have e : (a.int ρ == c) = true := this
  simpa using e
theorem fieldM_s {cx : Ctx} {ρ : Env} (hg : GoodM ρ) {f : FuncId} (h : ∀ (v w : Int) (_ : U64 v) (W : World), Calls cx.P f #[.int .u64 v, .int .i64 w] W (Ret (.tuple #[.int .i64 (encF v w), .int .i64 (patErr v w)]) W)) : SumOk cx ρ f fieldM := by
  intro pc H args v hv ok L β vals w n hW ha
  unfold fieldM at hv
  split at hv
  · rename_i e w'
    split at hv
    · rename_i g hb
      cases hv
      cases ha
      unfold backF at hb
      split at hb
      · rename_i f' _ _ _
        split at hb
        · rename_i hy
          cases hb
          have k := decEq_ok ok hy
          replace k : ρ.f 4 (g.int ρ) 64 0 0 = 0 := k
          rw [hg.2.2.2] at k
          obtain ⟨k1, k2, k3⟩ := field_back _ _ k
          have := h (fldI (g.int ρ) 64) 64 k1 w
          rw [k2, k3] at this
          refine ⟨_, rfl, ?_⟩
          show Calls cx.P f #[.int .u64 (ρ.f 3 (g.int ρ) _ _ _), .int .i64 64] w (Ret (.tuple #[.int .i64 (g.int ρ), .int .i64 0]) w)
          rw [hg.2.1]
          exact this
        · cases hb
      · rename_i f' _ _ _
        split at hb
        · rename_i hy
          cases hb
          have k := decEq_ok ok hy
          replace k : ρ.f 4 (g.int ρ) 32 0 0 = 0 := k
          rw [hg.2.2.2] at k
          obtain ⟨k1, k2, k3⟩ := field_back _ _ k
          have := h (fldI (g.int ρ) 32) 32 k1 w
          rw [k2, k3] at this
          refine ⟨_, rfl, ?_⟩
          show Calls cx.P f #[.int .u64 (ρ.f 5 (g.int ρ) _ _ _), .int .i64 32] w (Ret (.tuple #[.int .i64 (g.int ρ), .int .i64 0]) w)
          rw [hg.2.2.1]
          exact this
        · cases hb
      · cases hb
    · exact field_s hg.1 h pc H _ v hv ok L β vals w n hW ha
  · cases hv
theorem valueM_s {cx : Ctx} {ρ : Env} (hg : GoodM ρ) {f : FuncId} (h : ∀ (f' w : Int) (_ : I64 f') (_ : I64 w) (W : World), Calls cx.P f #[.int .i64 f', .int .i64 w] W (Ret (.tuple #[.int .u64 (fldI f' w), .int .i64 (fldE f' w)]) W)) : SumOk cx ρ f valueM := by
  intro pc H args u hu ok L β vals w n hW ha
  unfold valueM at hu
  split at hu
  · rename_i e w'
    split at hu
    · rename_i v hb
      cases hu
      cases ha
      unfold backV at hb
      split at hb
      · rename_i v' w1 _ _
        split at hb
        · rename_i hy
          cases hb
          simp only [Bool.and_eq_true] at hy
          have e1 := SE.same_eq hy.1
          subst e1
          have k := decEq_ok ok hy.2.2
          have hv := low_ok ok hy.2.1
          replace k : ρ.f 2 (v'.int ρ) w' 0 0 = 0 := k
          rw [hg.1.2] at k
          obtain ⟨k1, k2⟩ := back_value (u64_low hv) k
          have hw' : w' = 32 ∨ w' = 64 := by
            rcases patErr_cases (v'.int ρ) w' with q | q
            · exact q.2.1
            · rcases q.1 with q | q <;> omega
          have hF := encF_bd (v'.int ρ) w'
          have := h (encF (v'.int ρ) w') w' ⟨by omega, by omega⟩ ⟨by omega, by omega⟩ w
          rw [k1, k2] at this
          refine ⟨.tuple #[.int .u64 (v'.int ρ), .int .i64 0], ?_, ?_⟩
          · show some (Value.tuple #[.int .u64 ((mkBits pc 0 64 v').int ρ), .int .i64 0]) = _
            rw [mkBits_ok ok, show (2 : Int) ^ 0 = 1 from rfl, Int.ediv_one, Int.emod_eq_of_lt hv.1 hv.2]
          · show Calls cx.P f #[.int .i64 (ρ.f 1 (v'.int ρ) w' _ _), .int .i64 w'] w _
            rw [hg.1.1]
            exact this
        · cases hb
      · cases hb
    · split at hu
      · rename_i hs
        have hf := i64_sgn (sgnd_ok ok hs)
        split at hu
        · rename_i hw
          cases hu
          cases ha
          have := intSame_eq hw
          subst this
          refine ⟨.tuple #[.int .u64 (fldI (e.int ρ) 64), .int .i64 (fldE (e.int ρ) 64)], ?_, h _ 64 hf ⟨by decide, by decide⟩ w⟩
          show some (Value.tuple #[.int .u64 (ρ.f 3 (e.int ρ) 64 0 0), .int .i64 (ρ.f 4 (e.int ρ) 64 0 0)]) = _
          rw [hg.2.1, hg.2.2.2]
        · split at hu
          · rename_i hw
            cases hu
            cases ha
            have := intSame_eq hw
            subst this
            refine ⟨.tuple #[.int .u64 (fldI (e.int ρ) 32), .int .i64 (fldE (e.int ρ) 32)], ?_, h _ 32 hf ⟨by decide, by decide⟩ w⟩
            show some (Value.tuple #[.int .u64 (ρ.f 5 (e.int ρ) 32 0 0), .int .i64 (ρ.f 4 (e.int ρ) 32 0 0)]) = _
            rw [hg.2.2.1, hg.2.2.2]
          · cases hu
      · cases hu
  · cases hu
theorem backF_ok {ρ : Env} (hg : GoodM ρ) {pc : PC} (ok : PcOk ρ pc) {v b g : SE} (h : backF pc v b = some g) : U64 (v.int ρ) ∧ encF (v.int ρ) (b.int ρ) = g.int ρ ∧ patErr (v.int ρ) (b.int ρ) = 0 := by
  unfold backF at h
  split at h
  · split at h
    · rename_i hy
      cases h
      have k := decEq_ok ok hy
      replace k : ρ.f 4 (g.int ρ) 64 0 0 = 0 := k
      rw [hg.2.2.2] at k
      obtain ⟨k1, k2, k3⟩ := field_back _ _ k
      show U64 (ρ.f 3 (g.int ρ) _ _ _) ∧ encF (ρ.f 3 (g.int ρ) _ _ _) 64 = _ ∧ patErr (ρ.f 3 (g.int ρ) _ _ _) 64 = 0
      rw [hg.2.1]
      exact ⟨k1, k3, k2⟩
    · cases h
  · split at h
    · rename_i hy
      cases h
      have k := decEq_ok ok hy
      replace k : ρ.f 4 (g.int ρ) 32 0 0 = 0 := k
      rw [hg.2.2.2] at k
      obtain ⟨k1, k2, k3⟩ := field_back _ _ k
      show U64 (ρ.f 5 (g.int ρ) _ _ _) ∧ encF (ρ.f 5 (g.int ρ) _ _ _) 32 = _ ∧ patErr (ρ.f 5 (g.int ρ) _ _ _) 32 = 0
      rw [hg.2.2.1]
      exact ⟨k1, k3, k2⟩
    · cases h
  · cases h
theorem bits64 {v : SE} {ρ : Env} (h : U64 (v.int ρ)) : (SE.un (.bits 0 64) v).int ρ = v.int ρ := by
  rw [bits_int, show (2 : Int) ^ 0 = 1 from rfl, Int.ediv_one]
  exact Int.emod_eq_of_lt h.1 (by have := h.2; show _ < (18446744073709551616 : Int); omega)
theorem simpF_ok {ρ : Env} (hg : GoodM ρ) {pc : PC} (ok : PcOk ρ pc) : ∀ e : SE, (simpF pc e).den ρ = e.den ρ := by
  intro e
  induction e with
  | un o a ih => simp only [simpF, SE.den, ih]
  | bin o a b iha ihb => simp only [simpF, SE.den, iha, ihb]
  | ite c a b ihc iha ihb => simp only [simpF, SE.den, ihc, iha, ihb]
  | bite c a b ihc iha ihb => simp only [simpF, SE.den, ihc, iha, ihb]
  | app f a b c d iha ihb ihc ihd =>
    unfold simpF
    split
    · rename_i v
      split
      · rename_i g hgb
        obtain ⟨h1, h2, h3⟩ := backF_ok hg ok hgb
        split
        · rename_i hk
          show g.den ρ = (ρ.f 1 ((SE.un (.bits 0 64) v).int ρ) (b.int ρ) _ _, false)
          rw [hg.1.1, bits64 h1, h2]
          exact numK_ok hk
        · rfl
      · rfl
    · rename_i v
      split
      · rename_i g hgb
        obtain ⟨h1, h2, h3⟩ := backF_ok hg ok hgb
        show ((0 : Int), false) = (ρ.f 2 ((SE.un (.bits 0 64) v).int ρ) (b.int ρ) _ _, false)
        rw [hg.1.2, bits64 h1, h3]
      · rfl
    · rfl
  | _ => rfl
def valSums : Sums := [(132, valueM), (138, fieldM), (101, valueM), (108, fieldM)]
theorem ok_valSums : AllOk Tryz.prog GoodM valSums := by
  intro cx ρ hg _ hP p hp
  simp only [valSums, List.mem_cons, List.not_mem_nil, or_false] at hp
  rcases hp with rfl | rfl | rfl | rfl
  · exact valueM_s hg (by rw [hP]; exact value_any)
  · exact fieldM_s hg (fun v w hv W => by rw [hP]; exact field_any v w hv W)
  · exact valueM_s hg (by rw [hP]; exact rvaluef_any)
  · exact fieldM_s hg (fun v w hv W => by rw [hP]; exact rfield_any v w hv W)
end
end Go.Proofs.YtopfaapcekiojaaGreat.Sym
