/- Decode of any word; Encode of any instruction, and Decode of its word: what is looked at, and what it says. -/
import Derived.Test.YtopfaapcekiojaaGreatLogQ
import Derived.Test.YtopfaapcekiojaaGreatEncE9
import Derived.Test.YtopfaapcekiojaaGreatInsF
namespace Go.Proofs.YtopfaapcekiojaaGreat.Sym
open Go Go.RowKit Go.Proofs.YtopfaapcekiojaaGreat
noncomputable section
set_option linter.unusedVariables false

def decSums : Sums := valSums ++ sm_enc_Encode
theorem ok_decSums : AllOk Tryz.prog GoodM decSums := ok_valSums.app (ok_enc_Encode.mono fun _ h => h.1)
def decCx (bd : List (Nat × Int × Int)) (ax : List (SE × Bool)) : Ctx := { P := Tryz.prog, bd := bd, fb := fbM, sums := decSums, ax := ax }
def encG : Nat → Int → Int → Int → Int → Int
  | 1, a, b, _, _ => encF a b
  | 2, a, b, _, _ => patErr a b
  | 3, a, _, _, _ => fldI a 64
  | 4, a, b, _, _ => fldE a b
  | 5, a, _, _, _ => fldI a 32
  | _, _, _, _, _ => 0
/-- what the letters stand for -/
def encEnv (y : Ins) (e : Nat → Int) (t : Nat → Bool) (w : World) : Env := ⟨insI y e, insB y t, fun _ => .nilFunc, encG, fun _ _ _ _ _ => false, w.heap.size, w, fun _ => (none, 0), fun _ => ⟨#[]⟩⟩
theorem encGood (y : Ins) (e : Nat → Int) (t : Nat → Bool) (w : World) : GoodM (encEnv y e t w) := ⟨⟨fun _ _ _ _ => rfl, fun _ _ _ _ => rfl⟩, fun _ _ _ _ => rfl, fun _ _ _ _ => rfl, fun _ _ _ _ => rfl⟩
theorem fbM_ok : ∀ f l h, lk fbM f = some (l, h) → ∀ a b c d, l ≤ encG f a b c d ∧ encG f a b c d ≤ h := by
  intro f l h e a b c d
  unfold fbM at e
  rw [lk_cons, lk_cons, lk_cons] at e
  have b64 := fldI_bd a 64
  have b32 := fldI_bd a 32
  have bF := encF_bd a b
  rw [show ((2 ^ 64 : Nat) : Int) = 18446744073709551616 from rfl] at b64
  rw [show ((2 ^ 32 : Nat) : Int) = 4294967296 from rfl] at b32
  split at e
  · rename_i q; cases e; subst q
    show 0 ≤ fldI a 64 ∧ fldI a 64 ≤ 18446744073709551615
    exact ⟨b64.1, Int.le_of_lt_add_one b64.2⟩
  · split at e
    · rename_i q; cases e; subst q
      show 0 ≤ fldI a 32 ∧ fldI a 32 ≤ 4294967295
      exact ⟨b32.1, Int.le_of_lt_add_one b32.2⟩
    · split at e
      · rename_i q; cases e; subst q; exact bF
      · cases e
section
variable {y : Ins} {e : Nat → Int} {t : Nat → Bool} {w : World} {bd : List (Nat × Int × Int)} {ax : List (SE × Bool)}
theorem dec_cxok (hb : BdOk bd (insI y e)) (hax : ∀ p ∈ ax, p.1.tru (encEnv y e t w) = p.2) : (decCx bd ax).Ok (encEnv y e t w) := ⟨hb, fbM_ok, fun _ => rfl, insM, hax⟩
theorem dec_sums (W : World) : SumsOk (decCx bd ax) ((encEnv y e t w).at W) := ok_decSums.sums (encGood y e t w) (fun _ => rfl) rfl rfl
end
/-! ### what is known does not hang on the world -/
theorem pcOk_at {ρ : Env} {pc : PC} {w : World} (h : PcOk ρ pc) : PcOk (ρ.at w) pc := by
  refine ⟨h.bd, h.fb, fun e he => ?_, fun f hf => by rw [tru_at]; exact h.fs f hf, fun f hf => by rw [tru_at]; exact h.cs f hf, h.good⟩
  obtain ⟨a, b, c, d, n⟩ := h.iv e he
  exact ⟨by rw [int_at]; exact a, by rw [int_at]; exact b, by rw [int_at]; exact c, by rw [int_at]; exact d, by rw [int_at]; exact n⟩
/-! ### an instruction's cells -/
def instL : List SC → Bool
  | [.int .i64 _, .bool _, .bool _, .int .i64 _, .int .i64 _, .int .i64 _, .int .i64 _, .int .i64 _, .int .i64 _, .int .i64 _] => true
  | _ => false
def i64P (pc : PC) : List SC → Bool
  | [] => true
  | .int _ e :: r => sgnd (bnd pc e) 63 && i64P pc r
  | _ :: r => i64P pc r
def opL : List SC → SE
  | .int _ e :: _ => e
  | _ => .lit 0
theorem instL_den {l : List SC} (h : instL l = true) {ρ : Env} {pc : PC} (ok : PcOk ρ pc) (hb : i64P pc l = true) : ∃ y : Ins, y.wf ∧ (opL l).int ρ = y.op ∧ ∀ β, (SP.agg l).den ρ β = some y.val := by
  unfold instL at h
  split at h
  · rename_i a0 b0 b1 a1 a2 a3 a4 a5 a6 a7
    simp only [i64P, Bool.and_eq_true, and_true] at hb
    obtain ⟨c0, c1, c2, c3, c4, c5, c6, c7⟩ := hb
    have g : ∀ {e : SE}, sgnd (bnd pc e) 63 = true → I64 (e.int ρ) := fun hs => i64_sgn (sgnd_ok ok hs)
    exact ⟨⟨a0.int ρ, b0.tru ρ, b1.tru ρ, a1.int ρ, a2.int ρ, a3.int ρ, a4.int ρ, a5.int ρ, a6.int ρ, a7.int ρ⟩, ⟨g c0, g c1, g c2, g c3, g c4, g c5, g c6, g c7⟩, rfl, fun β => rfl⟩
  · cases h
/-- Encode at an instruction's cells -/
def encAt (pc : PC) (l : List SC) : Option (SE × SE) := match tplsSum tp_enc_Encode pc [] [.p (.agg l)] with
  | some (.tup [.c (.int .u32 w), .c (.int .i64 z)]) => some (w, z)
  | _ => none
theorem encAt_ok {pc : PC} {l : List SC} {a z : SE} (h : encAt pc l = some (a, z)) {ρ : Env} (hg : GoodM ρ) (one : ∀ i, (ρ.v i).oneCell' = true) (ok : PcOk ρ pc) {v : Value} (hv : ∀ β, (SP.agg l).den ρ β = some v) (W : World) :
    Calls Tryz.prog 23 #[v] W (Ret (.tuple #[.int .u32 (a.int ρ), .int .i64 (z.int ρ)]) W) := by
  unfold encAt at h
  split at h
  · rename_i a' z' ht
    cases h
    have ok' : PcOk (ρ.at W) pc := pcOk_at ok
    have hA : denA (ρ.at W) noLay [SV.p (.agg l)] = some [v] := by
      rw [denA_at]
      have : (SV.p (.agg l)).den ρ noLay = some v := hv noLay
      unfold denA
      rw [this]
      rfl
    have hgW : GoodL (ρ.at W) := hg.1
    obtain ⟨x, hx, hc⟩ := ok_enc_Encode (decCx [] []) (ρ.at W) hgW one rfl (23, tplsSum tp_enc_Encode) List.mem_cons_self pc [] [.p (.agg l)] _ ht ok' ⟨[], []⟩ noLay [v] W 0 (WR.start _ (ρ.at W) W 0) hA
    have e : some (Value.tuple #[.int .u32 (a.int (ρ.at W)), .int .i64 (z.int (ρ.at W))]) = some x := hx
    rw [int_at, int_at] at e
    cases e
    exact hc
  · cases h
theorem simpF_int {ρ : Env} (hg : GoodM ρ) {pc : PC} (ok : PcOk ρ pc) (e : SE) : (simpF pc e).int ρ = e.int ρ := by unfold SE.int; rw [simpF_ok hg ok]
/-! ### Decode of any word -/
def zeroL : List SC := [.int .i64 (.lit 0), .bool .ff, .bool .ff, .int .i64 (.lit 0), .int .i64 (.lit 0), .int .i64 (.lit 0), .int .i64 (.lit 0), .int .i64 (.lit 0), .int .i64 (.lit 0), .int .i64 (.lit 0)]
def classB : SE → Bool
  | .lit k => intLe 1 k && intLe k 32
  | _ => false
def wordB (pc : PC) (o : Option (SE × SE)) (w : SE) : Bool := match o with
  | some (a, z) => match eqBy 100 pc (simpF pc a) w with
    | true => eqBy 100 pc (simpF pc z) (.lit 0)
    | false => false
  | none => false
def qD1 (pc : PC) (v : SV) : Bool := match v with
  | .tup [.agg l, .c (.int .i64 (.lit e))] => match instL l && i64P pc l with
    | true => match intSame e 0 with
      | true => classB (opL l) && wordB pc (encAt pc l) (.var 8)
      | false => intSame e 4 && lSame SC.same l zeroL
    | false => false
  | _ => false
def d1B : Bool := chkB (decCx [(8, 0, 4294967295)] []) 8 [.p (.c (.int .u32 (.var 8)))] qD1
def DecAny (w : Int) : Prop := (∃ y : Ins, y.wf ∧ 1 ≤ y.op ∧ y.op ≤ 32 ∧ (∀ W, Calls Tryz.prog 8 #[.int .u32 w] W (Ret (.tuple #[y.val, .int .i64 0]) W)) ∧ ∀ W, Calls Tryz.prog 23 #[y.val] W (Ret (.tuple #[.int .u32 w, .int .i64 0]) W)) ∨
    ∀ W, Calls Tryz.prog 8 #[.int .u32 w] W (Ret (.tuple #[y0.val, .int .i64 4]) W)
theorem d1_ok (h : d1B = true) (w : Int) (hw : U32 w) : DecAny w := by
  have w0 : World := default
  have hb : BdOk [(8, 0, 4294967295)] (insI y0 (fun _ => w)) := bd_cons (show 0 ≤ w ∧ w ≤ 4294967295 from ⟨hw.1, Int.le_of_lt_add_one (by have := hw.2; show w < _; omega)⟩) (by intro i l h e; cases e)
  unfold d1B at h
  obtain ⟨v, pc, ok, hq, hc⟩ := chkB_calls h (ρ := encEnv y0 (fun _ => w) (fun _ => false) w0) (dec_cxok hb (by intro p hp; cases hp)) dec_sums insM (vals := [.int .u32 w]) rfl
  unfold qD1 at hq
  split at hq
  · rename_i l z
    split at hq
    · rename_i hl
      simp only [Bool.and_eq_true] at hl
      obtain ⟨y, hy, hop, hd⟩ := instL_den hl.1 ok hl.2
      have hv : ∀ β, (SV.tup [.agg l, .c (.int .i64 (.lit z))]).den (encEnv y0 (fun _ => w) (fun _ => false) w0) β = some (.tuple #[y.val, .int .i64 z]) := by
        intro β
        show (denP _ β [.agg l, .c (.int .i64 (.lit z))]).map _ = _
        unfold denP
        rw [hd β]
        rfl
      have hc := hc _ hv
      split at hq
      · rename_i hz
        have hz := intSame_eq hz
        subst hz
        simp only [Bool.and_eq_true] at hq
        obtain ⟨q1, q2⟩ := hq
        unfold classB at q1
        split at q1
        · rename_i k hk
          simp only [Bool.and_eq_true] at q1
          have k1 := intLe_le q1.1
          have k2 := intLe_le q1.2
          rw [hk] at hop
          have hop : k = y.op := hop
          unfold wordB at q2
          split at q2
          · rename_i a z he
            split at q2
            · rename_i e1
              have e1 := eqBy_ok ok e1
              have e2 := eqBy_ok ok q2
              have s1 := simpF_int (encGood y0 (fun _ => w) (fun _ => false) w0) ok a
              have s2 := simpF_int (encGood y0 (fun _ => w) (fun _ => false) w0) ok z
              rw [s1] at e1
              rw [s2] at e2
              refine .inl ⟨y, hy, by omega, by omega, hc, fun W => ?_⟩
              have := encAt_ok he (encGood y0 (fun _ => w) (fun _ => false) w0) (fun _ => rfl) ok hd W
              rw [e1, e2] at this
              exact this
            · cases q2
          · cases q2
        · cases q1
      · simp only [Bool.and_eq_true] at hq
        have hz := intSame_eq hq.1
        have hl0 : l = zeroL := lSame_eq (fun _ _ h => SC.same_eq h) hq.2
        subst hz
        refine .inr fun W => ?_
        have := hd noLay
        rw [hl0] at this
        have hy0 : some y0.val = some y.val := this
        rw [Option.some.inj hy0]
        exact hc W
    · cases hq
  · cases hq
/-! ### Decode of an instruction's word -/
/-- a number is not nought -/
def neBy : Nat → PC → SE → Bool
  | 0, _, _ => false
  | n + 1, pc, a => okOr pc fun pc => match a with
    | .ite c x y => match decT pc c with
      | some true => neBy n pc x
      | some false => neBy n pc y
      | none => match neBy n (assume pc c true) x with
        | true => neBy n (assume pc c false) y
        | false => false
    | a => match dec pc (.bin .eq a (.lit 0)) with
      | some false => true
      | _ => false
theorem neBy_ok {ρ : Env} : ∀ {n : Nat} {pc : PC} {a : SE}, PcOk ρ pc → neBy n pc a = true → a.int ρ ≠ 0
  | 0, _, _, _, h => by cases h
  | n + 1, pc, a, ok, h => by
    unfold neBy at h
    replace h := okOr_ok ok h
    split at h
    · rename_i c x y
      show (if c.tru ρ then x.int ρ else y.int ρ) ≠ 0
      split at h
      · rename_i hd; rw [if_pos (decT_ok ok hd)]; exact neBy_ok ok h
      · rename_i hd; rw [if_neg (by rw [decT_ok ok hd]; simp)]; exact neBy_ok ok h
      · split at h
        · rename_i hx
          cases hc : c.tru ρ with
          | true => rw [if_pos rfl]; exact neBy_ok (assume_ok ok hc) hx
          | false => rw [if_neg (by simp)]; exact neBy_ok (assume_ok ok hc) h
        · cases h
    · split at h
      · rename_i hd
        have e : (a.int ρ == 0) = false := dec_ok ok hd
        simpa using e
      · cases h
def wantD (l : List SC) (pc : PC) (v : SV) : Bool := eqV pc v (.tup [.agg l, .c (.int .i64 (.lit 0))])
def leafD (bd : List (Nat × Int × Int)) (l : List SC) (ax : List (SE × Bool)) (pc : PC) (w : SE) : Bool := w.ws.1 && (low (bnd pc w) 32 && chkB (decCx bd ax) 8 [.p (.c (.int .u32 (w.sub pc [] [])))] (wantD l))
def d2go (bd : List (Nat × Int × Int)) (l : List SC) : Nat → List (SE × Bool) → SE → Bool
  | 0, _, _ => false
  | n + 1, ax, w => okOr (assumes ax (PC.start (decCx bd ax))) fun pc => match w with
    | .ite c x y => match decT pc c with
      | some true => d2go bd l n ax x
      | some false => d2go bd l n ax y
      | none => match d2go bd l n (ax ++ [(c, true)]) x with
        | true => d2go bd l n (ax ++ [(c, false)]) y
        | false => false
    | w => leafD bd l ax pc w
theorem put_nil (ρ : Env) : ρ.put [] [] = ρ := rfl
section
variable {y : Ins} {e : Nat → Int} {t : Nat → Bool} {w0 : World} {bd : List (Nat × Int × Int)}
def DecIs (y : Ins) (v : Int) : Prop := U32 v ∧ ∀ W, Calls Tryz.prog 8 #[.int .u32 v] W (Ret (.tuple #[y.val, .int .i64 0]) W)
theorem d2go_ok (hb : BdOk bd (insI y e)) {l : List SC} (hl : ∀ β, (SP.agg l).den (encEnv y e t w0) β = some y.val) : ∀ {n : Nat} {ax : List (SE × Bool)} {w : SE}, (∀ p ∈ ax, p.1.tru (encEnv y e t w0) = p.2) → d2go bd l n ax w = true → DecIs y (w.int (encEnv y e t w0))
  | 0, _, _, _, h => by cases h
  | n + 1, ax, w, hax, h => by
    have cok : (decCx bd ax).Ok (encEnv y e t w0) := dec_cxok hb hax
    have ok := cok.start
    have app : ∀ {c : SE} {b : Bool}, c.tru (encEnv y e t w0) = b → ∀ p ∈ ax ++ [(c, b)], p.1.tru (encEnv y e t w0) = p.2 := by
      intro c b hc p hp
      rcases List.mem_append.1 hp with hp | hp
      · exact hax p hp
      · simp only [List.mem_cons, List.not_mem_nil, or_false] at hp
        subst hp
        exact hc
    unfold d2go at h
    replace h := okOr_ok ok h
    split at h
    · rename_i c a b
      have hi : (SE.ite c a b).int (encEnv y e t w0) = if c.tru (encEnv y e t w0) then a.int (encEnv y e t w0) else b.int (encEnv y e t w0) := rfl
      rw [hi]
      split at h
      · rename_i hd; rw [if_pos (decT_ok ok hd)]; exact d2go_ok hb hl hax h
      · rename_i hd; rw [if_neg (by rw [decT_ok ok hd]; simp)]; exact d2go_ok hb hl hax h
      · split at h
        · rename_i hx
          cases hc : c.tru (encEnv y e t w0) with
          | true => rw [if_pos rfl]; exact d2go_ok hb hl (app hc) hx
          | false => rw [if_neg (by simp)]; exact d2go_ok hb hl (app hc) h
        · cases h
    · unfold leafD at h
      simp only [Bool.and_eq_true] at h
      have hs : (w.sub (assumes ax (PC.start (decCx bd ax))) [] []).int (encEnv y e t w0) = w.int (encEnv y e t w0) := (sub_ok' ok [] [] w).1 h.1
      refine ⟨u32_low (low_ok ok h.2.1), ?_⟩
      obtain ⟨v, pc, ok', hq, hc⟩ := chkB_calls h.2.2 (ρ := encEnv y e t w0) cok dec_sums insM (vals := [.int .u32 ((w.sub (assumes ax (PC.start (decCx bd ax))) [] []).int (encEnv y e t w0))]) rfl
      rw [hs] at hc
      refine hc _ fun β => ?_
      rw [eqV_ok ok' hq]
      show (denP _ β [.agg l, .c (.int .i64 (.lit 0))]).map _ = _
      unfold denP
      rw [hl β]
      rfl
end
/-- Check at an instruction's cells -/
def chkAt (ts : List Tpl) (pc : PC) (l : List SC) : Option SE := match tplsSum ts pc [] [.p (.agg l)] with
  | some (.p (.c (.int .i64 z))) => some z
  | _ => none
def sameZ (pc : PC) (o : Option SE) (z : SE) : Bool := match o with
  | some a => eqBy 100 pc a z
  | none => false
def d2w (bd : List (Nat × Int × Int)) (l : List SC) (pc : PC) (a z : SE) : Bool := match a with
  | .ite c x b => match okOr (assume pc c true) (fun p => low (bnd p x) 32 && neBy 100 p z) && okOr (assume pc c false) (fun p => low (bnd p b) 32) with
    | true => classB (opL l) && d2go bd l 20 [(c, false)] b
    | false => false
  | a => low (bnd pc a) 32 && neBy 100 pc z
def d2B (bd : List (Nat × Int × Int)) (l : List SC) : Bool := match encAt (PC.start (decCx bd [])) l with
  | some (a, z) => match sameZ (PC.start (decCx bd [])) (chkAt tp_cooper_inst_Check (PC.start (decCx bd [])) l) z && sameZ (PC.start (decCx bd [])) (chkAt tp_cooper_cooperref04_Check (PC.start (decCx bd [])) l) z with
    | true => d2w bd l (PC.start (decCx bd [])) a z
    | false => false
  | none => false
/-- what Encode gives of an instruction, and Decode of that -/
def EncAny (y : Ins) : Prop := ∃ v z, U32 v ∧ (∀ W, Calls Tryz.prog 23 #[y.val] W (Ret (.tuple #[.int .u32 v, .int .i64 z]) W)) ∧
    (∀ W, Calls Tryz.prog 30 #[y.val] W (Ret (.int .i64 z) W)) ∧ (∀ W, Calls Tryz.prog 27 #[y.val] W (Ret (.int .i64 z) W)) ∧ (z = 0 → 1 ≤ y.op ∧ y.op ≤ 32 ∧ DecIs y v)
theorem chkAt_ok {f : FuncId} {ts : List Tpl} (hm : (f, tplsSum ts) ∈ sm_enc_Encode) {pc : PC} {l : List SC} {z : SE} (h : chkAt ts pc l = some z) {ρ : Env} (hg : GoodM ρ) (one : ∀ i, (ρ.v i).oneCell' = true) (ok : PcOk ρ pc) {v : Value} (hv : ∀ β, (SP.agg l).den ρ β = some v) (W : World) :
    Calls Tryz.prog f #[v] W (Ret (.int .i64 (z.int ρ)) W) := by
  unfold chkAt at h
  split at h
  · rename_i z' ht
    cases h
    have ok' : PcOk (ρ.at W) pc := pcOk_at ok
    have hA : denA (ρ.at W) noLay [SV.p (.agg l)] = some [v] := by
      rw [denA_at]
      have : (SV.p (.agg l)).den ρ noLay = some v := hv noLay
      unfold denA
      rw [this]
      rfl
    have hgW : GoodL (ρ.at W) := hg.1
    obtain ⟨x, hx, hc⟩ := ok_enc_Encode (decCx [] []) (ρ.at W) hgW one rfl (f, tplsSum ts) hm pc [] [.p (.agg l)] _ ht ok' ⟨[], []⟩ noLay [v] W 0 (WR.start _ (ρ.at W) W 0) hA
    have e : some (Value.int .i64 (z.int (ρ.at W))) = some x := hx
    rw [int_at] at e
    cases e
    exact hc
  · cases h
theorem mem_checks : (30, tplsSum tp_cooper_inst_Check) ∈ sm_enc_Encode ∧ (27, tplsSum tp_cooper_cooperref04_Check) ∈ sm_enc_Encode := by
  constructor
  · simp [sm_enc_Encode, encSums, sm_cooper_cooperref04_Check, sm_cooper_inst_Check]
  · simp [sm_enc_Encode, encSums, sm_cooper_cooperref04_Check]
theorem d2_ok {y : Ins} {e : Nat → Int} {t : Nat → Bool} {w0 : World} {bd : List (Nat × Int × Int)} (hb : BdOk bd (insI y e)) {l : List SC} (hl : ∀ β, (SP.agg l).den (encEnv y e t w0) β = some y.val) (hop : (opL l).int (encEnv y e t w0) = y.op) (h : d2B bd l = true) : EncAny y := by
  have cok : (decCx bd []).Ok (encEnv y e t w0) := dec_cxok hb (by intro p hp; cases hp)
  have ok : PcOk (encEnv y e t w0) (PC.start (decCx bd [])) := cok.start
  have hg := encGood y e t w0
  unfold d2B at h
  split at h
  · rename_i a z he
    split at h
    · rename_i hs
      simp only [Bool.and_eq_true] at hs
      have hz : ∀ {f : FuncId} {ts : List Tpl}, (f, tplsSum ts) ∈ sm_enc_Encode → sameZ (PC.start (decCx bd [])) (chkAt ts (PC.start (decCx bd [])) l) z = true → ∀ W, Calls Tryz.prog f #[y.val] W (Ret (.int .i64 (z.int (encEnv y e t w0))) W) := by
        intro f ts hm hs W
        unfold sameZ at hs
        split at hs
        · rename_i b hb'
          have e1 := eqBy_ok ok hs
          rw [← e1]
          exact chkAt_ok hm hb' hg (fun _ => rfl) ok hl W
        · cases hs
      have core : U32 (a.int (encEnv y e t w0)) ∧ (z.int (encEnv y e t w0) = 0 → 1 ≤ y.op ∧ y.op ≤ 32 ∧ DecIs y (a.int (encEnv y e t w0))) := by
        unfold d2w at h
        split at h
        · rename_i c x b
          split at h
          · rename_i hn
            simp only [Bool.and_eq_true] at hn h
            refine ⟨?_, fun z0 => ?_⟩
            · show U32 (if c.tru (encEnv y e t w0) then x.int _ else b.int _)
              cases hc : c.tru (encEnv y e t w0) with
              | true =>
                have ok' := assume_ok ok hc
                have q := okOr_ok ok' hn.1
                simp only [Bool.and_eq_true] at q
                exact u32_low (low_ok ok' q.1)
              | false =>
                have ok' := assume_ok ok hc
                exact u32_low (low_ok ok' (okOr_ok ok' hn.2))
            have hc : c.tru (encEnv y e t w0) = false := by
              cases hc : c.tru (encEnv y e t w0) with
              | false => rfl
              | true =>
                have ok' := assume_ok ok hc
                have q := okOr_ok ok' hn.1
                simp only [Bool.and_eq_true] at q
                exact absurd z0 (neBy_ok ok' q.2)
            have hi : (SE.ite c x b).int (encEnv y e t w0) = b.int (encEnv y e t w0) := by show (if c.tru _ then _ else _) = _; rw [hc]; rfl
            rw [hi]
            have d := d2go_ok hb hl (ax := [(c, false)]) (by intro p hp; simp only [List.mem_cons, List.not_mem_nil, or_false] at hp; subst hp; exact hc) h.2
            have q1 := h.1
            unfold classB at q1
            split at q1
            · rename_i k hk
              simp only [Bool.and_eq_true] at q1
              have k1 := intLe_le q1.1
              have k2 := intLe_le q1.2
              rw [hk] at hop
              have hop : k = y.op := hop
              exact ⟨by omega, by omega, d⟩
            · cases q1
          · cases h
        · simp only [Bool.and_eq_true] at h
          exact ⟨u32_low (low_ok ok h.1), fun z0 => absurd z0 (neBy_ok ok h.2)⟩
      exact ⟨a.int (encEnv y e t w0), z.int (encEnv y e t w0), core.1, encAt_ok he hg (fun _ => rfl) ok hl, hz mem_checks.1 hs.1, hz mem_checks.2 hs.2, core.2⟩
    · cases h
  · cases h
def cellsI (op : SE) : List SC := [.int .i64 op, .bool (.bvar 0), .bool (.bvar 1), .int .i64 (.var 0), .int .i64 (.var 1), .int .i64 (.var 2), .int .i64 (.var 3), .int .i64 (.var 4), .int .i64 (.var 5), .int .i64 (.var 6)]
theorem cells_den {y : Ins} {e : Nat → Int} {t : Nat → Bool} {w : World} {op : SE} (h : op.int (encEnv y e t w) = y.op) (β : Lay) : (SP.agg (cellsI op)).den (encEnv y e t w) β = some y.val := by
  show some (Value.agg #[.int .i64 (op.int (encEnv y e t w)), .bool y.x, .bool y.s, .int .i64 y.rd, .int .i64 y.rn, .int .i64 y.rm, .int .i64 y.ra, .int .i64 y.a, .int .i64 y.b, .int .i64 y.c]) = _
  rw [h]; rfl
def d2K (k : Nat) : Bool := d2B (bdK k k 7) (cellsI (.lit k))
def d2lo : Bool := d2B (bdK (-9223372036854775808) (-1) 7) (cellsI (.var 7))
def d2hi : Bool := d2B (bdK 33 9223372036854775807 7) (cellsI (.var 7))
theorem enc_any_of (hk : ∀ k, k < 33 → d2K k = true) (hlo : d2lo = true) (hhi : d2hi = true) (y : Ins) (hy : y.wf) : EncAny y := by
  have he : ∀ i : Nat, i + 8 < 7 → I64 ((fun _ => 0 : Nat → Int) i) := fun _ _ => z64
  have w0 : World := default
  refine by_class hy.1 (fun k hk' e => ?_) (fun h => ?_) (fun h => ?_)
  · exact d2_ok (t := fun _ => false) (w0 := w0) (bdK_ok hy he (by omega) (by omega)) (cells_den (op := .lit k) e.symm) e.symm (hk k hk')
  · exact d2_ok (t := fun _ => false) (w0 := w0) (bdK_ok hy he (i64_bd hy.1).1 (by omega)) (cells_den (op := .var 7) rfl) rfl hlo
  · exact d2_ok (t := fun _ => false) (w0 := w0) (bdK_ok hy he (by omega) (i64_bd hy.1).2) (cells_den (op := .var 7) rfl) rfl hhi
end
end Go.Proofs.YtopfaapcekiojaaGreat.Sym
