/- DecUnlike: what is known of two words that are decoded. -/
import Derived.Test.YtopfaapcekiojaaDecC
namespace Go.Proofs.Ytopfaapcekiojaa.lawDecUnlike
open Go Go.RowKit Go.Proofs.Ytopfaapcekiojaa Sym
set_option linter.unusedVariables false

theorem begun_run : allTrue (runF (decCx [] []) 300 31 [] [] 0) = true := by kernel_rfl
theorem begun_any (w : World) : Calls Try.prog 31 #[] w (Ret (.bool true) w) := by
  have ok : (decCx [] []).Ok ((encEnv y0 (fun _ => 0) (fun _ => false) w).at w) := (dec_cxok (y := y0) (e := fun _ => 0) (t := fun _ => false) (w := w) (bd := []) (ax := []) (by intro i l h e; cases e) (by intro p hp; cases hp)).at
  exact runF_true (cx := decCx [] []) ok (dec_sums w) insM rfl rfl (args := []) (vals := []) rfl begun_run
/-- what Decode gives of a word -/
def DecIt (w : Int) (p : Ins × Int) : Prop := (∀ W, Calls Try.prog 32 #[.int .u32 w] W (Ret (.tuple #[p.1.val, .int .i64 p.2]) W)) ∧ (p.2 = 0 → ∀ W, Calls Try.prog 34 #[p.1.val] W (Ret (.tuple #[.int .u32 w, .int .i64 0]) W))
theorem dec_ex (w : Int) (hw : U32 w) : ∃ p, DecIt w p := by
  rcases decode_one w hw with ⟨y, _, _, _, h1, h2⟩ | h
  · exact ⟨(y, 0), h1, fun _ => h2⟩
  · exact ⟨(y0, 4), h, fun e => absurd e (by decide)⟩
open Classical in
noncomputable def decP (w : Int) : Ins × Int := if h : U32 w then Classical.choose (dec_ex w h) else (y0, 0)
theorem decP_ok (w : Int) (hw : U32 w) : DecIt w (decP w) := by
  unfold decP
  rw [dif_pos hw]
  exact Classical.choose_spec (dec_ex w hw)
noncomputable def decF : Nat → Int → Int → Int → Int → Int
  | 10, x, _, _, _ => (decP x).1.op
  | 11, x, _, _, _ => (decP x).1.rd
  | 12, x, _, _, _ => (decP x).1.rn
  | 13, x, _, _, _ => (decP x).1.rm
  | 14, x, _, _, _ => (decP x).1.ra
  | 15, x, _, _, _ => (decP x).1.a
  | 16, x, _, _, _ => (decP x).1.b
  | 17, x, _, _, _ => (decP x).1.c
  | 18, x, _, _, _ => (decP x).2
  | _, _, _, _, _ => 0
noncomputable def decB : Nat → Int → Int → Int → Int → Bool
  | 1, x, _, _, _ => (decP x).1.x
  | 2, x, _, _, _ => (decP x).1.s
  | _, _, _, _, _ => false
def letU (a b : Int) : Nat → Int
  | 8 => a | 9 => b | _ => 0
noncomputable def uEnv (a b : Int) (w : World) : Env := ⟨letU a b, fun _ => false, fun _ => .nilFunc, decF, decB, w.heap.size, w, fun _ => (none, 0), fun _ => ⟨#[]⟩⟩
def ap (f : Nat) (e : SE) : SE := .app f e (.lit 0) (.lit 0) (.lit 0)
def pp (f : Nat) (e : SE) : SE := .papp f e (.lit 0) (.lit 0) (.lit 0)
def decLet (e : SE) : SV := .tup [.agg [.int .i64 (ap 10 e), .bool (pp 1 e), .bool (pp 2 e), .int .i64 (ap 11 e), .int .i64 (ap 12 e), .int .i64 (ap 13 e), .int .i64 (ap 14 e), .int .i64 (ap 15 e), .int .i64 (ap 16 e), .int .i64 (ap 17 e)], .c (.int .i64 (ap 18 e))]
noncomputable def decLS (pc : PC) (_ : List (Nat × Blk)) (args : List SV) : Option SV := match args with
  | [.p (.c (.int .u32 e))] => match low (bnd pc e) 32 with
    | true => some (decLet e)
    | false => none
  | _ => none
theorem decLS_s {cx : Ctx} {a b : Int} {w0 : World} (hP : cx.P = Try.prog) : SumOk cx (uEnv a b w0) 32 decLS := by
  intro pc H args u hu ok L β vals w n hW ha
  unfold decLS at hu
  split at hu
  · rename_i e
    split at hu
    · rename_i hl
      cases hu
      cases ha
      exact ⟨_, rfl, by rw [hP]; exact (decP_ok (e.int (uEnv a b w0)) (u32_low (Sym.low_ok ok hl))).1 w⟩
    · cases hu
  · cases hu
/-- two unlike words of one instruction -/
def condT (a c : SE) : SE := .bin .and (.bin .and (.bin .and (.un .not (.bin .eq a c)) (.bin .eq (ap 18 a) (.lit 0))) (.bin .eq (ap 18 c) (.lit 0))) (.bin .and (.bin .eq (ap 10 a) (ap 10 c)) (.bin .and (.bin .beq (pp 1 a) (pp 1 c)) (.bin .and (.bin .beq (pp 2 a) (pp 2 c)) (.bin .and (.bin .eq (ap 11 a) (ap 11 c)) (.bin .and (.bin .eq (ap 12 a) (ap 12 c)) (.bin .and (.bin .eq (ap 13 a) (ap 13 c)) (.bin .and (.bin .eq (ap 14 a) (ap 14 c)) (.bin .and (.bin .eq (ap 15 a) (ap 15 c)) (.bin .and (.bin .eq (ap 16 a) (ap 16 c)) (.bin .eq (ap 17 a) (ap 17 c)))))))))))
theorem encI : Try.prog.inits.idxOf? 34 = none := by kernel_rfl
theorem word_inj {a c : Int} (ha : U32 a) (hc : U32 c) (e1 : (decP a).2 = 0) (e2 : (decP c).2 = 0) (h : (decP a).1 = (decP c).1) : a = c := by
  have h1 := (decP_ok a ha).2 e1 default
  have h2 := (decP_ok c hc).2 e2 default
  rw [h] at h1
  have := ret_unique encI h1 h2
  simp only [Value.tuple.injEq, Array.mk.injEq, List.cons.injEq, Value.int.injEq, true_and, and_true] at this
  exact this
theorem cond_no {a b : Int} {w : World} (ha : U32 a) (c : SE) (hc : U32 (c.int (uEnv a b w))) : (condT (.var 8) c).tru (uEnv a b w) = false := by
  cases hb : (condT (.var 8) c).tru (uEnv a b w) with
  | false => rfl
  | true =>
    exfalso
    replace hb : ((((!(a == c.int (uEnv a b w))) && ((decP a).2 == 0)) && ((decP (c.int (uEnv a b w))).2 == 0)) && (((decP a).1.op == (decP (c.int (uEnv a b w))).1.op) && (((decP a).1.x == (decP (c.int (uEnv a b w))).1.x) && (((decP a).1.s == (decP (c.int (uEnv a b w))).1.s) && (((decP a).1.rd == (decP (c.int (uEnv a b w))).1.rd) && (((decP a).1.rn == (decP (c.int (uEnv a b w))).1.rn) && (((decP a).1.rm == (decP (c.int (uEnv a b w))).1.rm) && (((decP a).1.ra == (decP (c.int (uEnv a b w))).1.ra) && (((decP a).1.a == (decP (c.int (uEnv a b w))).1.a) && (((decP a).1.b == (decP (c.int (uEnv a b w))).1.b) && ((decP a).1.c == (decP (c.int (uEnv a b w))).1.c))))))))))) = true := hb
    simp only [Bool.and_eq_true, beq_iff_eq, Bool.not_eq_true', beq_eq_false_iff_ne, ne_eq] at hb
    obtain ⟨⟨⟨hne, e1⟩, e2⟩, h0, h1, h2, h3, h4, h5, h6, h7, h8, h9⟩ := hb
    refine hne (word_inj ha hc e1 e2 ?_)
    generalize (decP a).1 = p at *
    generalize (decP (c.int (uEnv a b w))).1 = q at *
    obtain ⟨a0, a1, a2, a3, a4, a5, a6, a7, a8, a9⟩ := p
    obtain ⟨b0, b1, b2, b3, b4, b5, b6, b7, b8, b9⟩ := q
    simp only at h0 h1 h2 h3 h4 h5 h6 h7 h8 h9
    subst h0 h1 h2 h3 h4 h5 h6 h7 h8 h9
    rfl
def otherT (k : Nat) : SE := .bin (.bxor .u32) (.var 8) (.lit (p2 (k % 32)))
noncomputable def uCx (k : Nat) : Ctx := { P := Try.prog, bd := [(8, 0, 4294967295), (9, 0, 4294967295)], fb := [], sums := [(31, patS [] (.p (.c (.bool .tt)))), (32, decLS)], ax := [(condT (.var 8) (.var 9), false), (condT (.var 8) (otherT k), false)] }
noncomputable def runB (k : Nat) : Bool := allTrue (runF (uCx k) 300 9 [.p (.c (.int .u32 (.var 8))), .p (.c (.int .u32 (.var 9))), .p (.c (.int .u8 (.lit (.ofNat k))))] [] 0)
end Go.Proofs.Ytopfaapcekiojaa.lawDecUnlike
