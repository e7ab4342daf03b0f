/- What Decode gives of whatever word, by letters; DecFixed: what is used. -/
import Derived.Test.YtopfaapcekiojaaGreatDecI
import Derived.Test.YtopfaapcekiojaaGreatDecK
import Derived.Handy
import Derived.ProofKit
import Derived.OpenShut
import Derived.Lib.SmallJoins
namespace Go.Proofs.YtopfaapcekiojaaGreat.lawDecFixed
open Go Go.RowKit Go.Proofs.YtopfaapcekiojaaGreat Sym
set_option linter.unusedVariables false

/-- what Decode gives of a word -/
def DecIt (w : Int) (p : Ins × Int) : Prop := (∀ W, Calls Tryz.prog 8 #[.int .u32 w] W (Ret (.tuple #[p.1.val, .int .i64 p.2]) W)) ∧ (p.2 = 0 → ∀ W, Calls Tryz.prog 23 #[p.1.val] W (Ret (.tuple #[.int .u32 w, .int .i64 0]) W))
theorem dec_ex (w : Int) (hw : U32 w) : ∃ p, DecIt w p := by
  rcases decode_one w hw with ⟨y, _, _, _, h1, h2⟩ | h
  · exact ⟨(y, 0), h1, fun _ => h2⟩
  · exact ⟨(y0, 4), h, fun e => absurd e (by decide)⟩
open Classical in
noncomputable def decP (w : Int) : Ins × Int := if h : U32 w then Classical.choose (dec_ex w h) else (y0, 0)
theorem decP_ok (w : Int) (hw : U32 w) : DecIt w (decP w) := by
  unfold decP
  rw [dif_pos hw]
  exact Classical.choose_spec (dec_ex w hw)
noncomputable def decF : Nat → Int → Int → Int → Int → Int
  | 10, x, _, _, _ => (decP x).1.op
  | 11, x, _, _, _ => (decP x).1.rd
  | 12, x, _, _, _ => (decP x).1.rn
  | 13, x, _, _, _ => (decP x).1.rm
  | 14, x, _, _, _ => (decP x).1.ra
  | 15, x, _, _, _ => (decP x).1.a
  | 16, x, _, _, _ => (decP x).1.b
  | 17, x, _, _, _ => (decP x).1.c
  | 18, x, _, _, _ => (decP x).2
  | _, _, _, _, _ => 0
noncomputable def decB : Nat → Int → Int → Int → Int → Bool
  | 1, x, _, _, _ => (decP x).1.x
  | 2, x, _, _, _ => (decP x).1.s
  | _, _, _, _, _ => false
def ap (f : Nat) (e : SE) : SE := .app f e (.lit 0) (.lit 0) (.lit 0)
def pp (f : Nat) (e : SE) : SE := .papp f e (.lit 0) (.lit 0) (.lit 0)
def decLet (e : SE) : SV := .tup [.agg [.int .i64 (ap 10 e), .bool (pp 1 e), .bool (pp 2 e), .int .i64 (ap 11 e), .int .i64 (ap 12 e), .int .i64 (ap 13 e), .int .i64 (ap 14 e), .int .i64 (ap 15 e), .int .i64 (ap 16 e), .int .i64 (ap 17 e)], .c (.int .i64 (ap 18 e))]
noncomputable def decLS (pc : PC) (_ : List (Nat × Blk)) (args : List SV) : Option SV := match args with
  | [.p (.c (.int .u32 e))] => match low (bnd pc e) 32 with
    | true => some (decLet e)
    | false => none
  | _ => none
def letE (v z b m : Int) : Nat → Int
  | 0 => v | 1 => z | 2 => b | 3 => m | _ => 0
noncomputable def fEnv (x : Ins) (v z b m : Int) (w : World) : Env := ⟨insI x (letE v z b m), insB x (fun _ => false), fun _ => .nilFunc, decF, decB, w.heap.size, w, fun _ => (none, 0), fun _ => ⟨#[]⟩⟩
def vS : SV := .p (.c (.int .u32 (.var 8)))
noncomputable def decTwo (pc : PC) (H : List (Nat × Blk)) (args : List SV) : Option SV := match patS [vS] (.tup [.agg (cellsI (.var 7)), .c (.int .i64 (.lit 0))]) pc H args with
  | some v => some v
  | none => decLS pc H args
def otherT (t : Nat) : SE := .bin (.bxor .u32) (.var 8) (.lit (p2 (t % 32)))
def axF (t : Nat) (c : Bool) : List (SE × Bool) := (.bin (.mt (Nat.pow 2 (t % 32)) 0) (.var 11) (.lit 0), !c) :: (match c with | true => [(.bin .eq (ap 10 (otherT t)) (.var 7), false)] | false => [])
noncomputable def fSums : Sums := [(10, patS [] (.p (.c (.bool .tt)))), (12, patS [instS (.var 7)] (.tup [.c (.int .u32 (.var 8)), .c (.int .i64 (.lit 0))])), (13, patS [.p (.c (.int .i64 (.var 7)))] (.tup [.c (.int .u32 (.var 10)), .c (.int .u32 (.var 11)), .c (.int .i64 (.lit 0))])), (8, decTwo)]
noncomputable def fCx (ax : List (SE × Bool)) : Ctx := { P := Tryz.prog, bd := [(8, 0, 4294967295), (11, 0, 4294967295)], fb := [], sums := fSums, ax := ax }
noncomputable def runB (c : Bool) (t : Nat) : Bool := allTrue (runF (fCx (axF t c)) 300 4 [instS (.var 7), .p (.c (.int .u8 (.lit (.ofNat t))))] [] 0)
noncomputable def badCx : Ctx := { P := Tryz.prog, bd := [], fb := [], sums := [(10, patS [] (.p (.c (.bool .tt)))), (12, patS [instS (.var 7)] (.tup [.c (.int .u32 (.var 8)), .c (.int .i64 (.var 9))]))], ax := [(.bin .eq (.var 9) (.lit 0), false)] }
noncomputable def badB : Bool := allTrue (runF badCx 300 4 [instS (.var 7), .p (.c (.int .u8 (.var 10)))] [] 0)
end Go.Proofs.YtopfaapcekiojaaGreat.lawDecFixed

/- DecFixed: runs 0. -/
namespace Go.Proofs.YtopfaapcekiojaaGreat.lawDecFixed
open Go Go.RowKit Go.Proofs.YtopfaapcekiojaaGreat Sym

theorem run_t_0 : allK (runB true) 32 0 = true := by kernel_rfl
theorem run_t_1 : allK (runB true) 32 32 = true := by kernel_rfl
theorem run_t_2 : allK (runB true) 32 64 = true := by kernel_rfl
theorem run_t_3 : allK (runB true) 32 96 = true := by kernel_rfl
theorem bad_run : badB = true := by kernel_rfl
end Go.Proofs.YtopfaapcekiojaaGreat.lawDecFixed

/- DecFixed: runs 1. -/
namespace Go.Proofs.YtopfaapcekiojaaGreat.lawDecFixed
open Go Go.RowKit Go.Proofs.YtopfaapcekiojaaGreat Sym

theorem run_t_4 : allK (runB true) 32 128 = true := by kernel_rfl
theorem run_t_5 : allK (runB true) 32 160 = true := by kernel_rfl
theorem run_t_6 : allK (runB true) 32 192 = true := by kernel_rfl
theorem run_t_7 : allK (runB true) 32 224 = true := by kernel_rfl
end Go.Proofs.YtopfaapcekiojaaGreat.lawDecFixed

/- DecFixed: runs 2. -/
namespace Go.Proofs.YtopfaapcekiojaaGreat.lawDecFixed
open Go Go.RowKit Go.Proofs.YtopfaapcekiojaaGreat Sym

theorem run_f_0 : allK (runB false) 32 0 = true := by kernel_rfl
theorem run_f_1 : allK (runB false) 32 32 = true := by kernel_rfl
theorem run_f_2 : allK (runB false) 32 64 = true := by kernel_rfl
theorem run_f_3 : allK (runB false) 32 96 = true := by kernel_rfl
end Go.Proofs.YtopfaapcekiojaaGreat.lawDecFixed

/- DecFixed: runs 3. -/
namespace Go.Proofs.YtopfaapcekiojaaGreat.lawDecFixed
open Go Go.RowKit Go.Proofs.YtopfaapcekiojaaGreat Sym

theorem run_f_4 : allK (runB false) 32 128 = true := by kernel_rfl
theorem run_f_5 : allK (runB false) 32 160 = true := by kernel_rfl
theorem run_f_6 : allK (runB false) 32 192 = true := by kernel_rfl
theorem run_f_7 : allK (runB false) 32 224 = true := by kernel_rfl
end Go.Proofs.YtopfaapcekiojaaGreat.lawDecFixed

/- PROVED: DecFixed returns true for every instruction and every bit; the arguments read behind the call as they read before. No condition. -/
namespace Go.Proofs.YtopfaapcekiojaaGreat.lawDecFixed
open Go.ChangeShapes Go.WideShapes Go.ChangeAt Go.RowKit Go.Sort Go.Joins Sym
set_option linter.unusedVariables false

theorem run_any (c : Bool) (k : Nat) (h : k < 256) : runB c k = true := by
  have hd : k / 32 < 8 := by omega
  have h1 : 32 * (k / 32) ≤ k := by omega
  have h2 : k < 32 * (k / 32) + 32 := by omega
  generalize k / 32 = q at *
  cases c with
  | true =>
    match q, hd with
    | 0, _ => exact allK_ok run_t_0 k (by omega) (by omega)
    | 1, _ => exact allK_ok run_t_1 k (by omega) (by omega)
    | 2, _ => exact allK_ok run_t_2 k (by omega) (by omega)
    | 3, _ => exact allK_ok run_t_3 k (by omega) (by omega)
    | 4, _ => exact allK_ok run_t_4 k (by omega) (by omega)
    | 5, _ => exact allK_ok run_t_5 k (by omega) (by omega)
    | 6, _ => exact allK_ok run_t_6 k (by omega) (by omega)
    | 7, _ => exact allK_ok run_t_7 k (by omega) (by omega)
    | q + 8, hd => omega
  | false =>
    match q, hd with
    | 0, _ => exact allK_ok run_f_0 k (by omega) (by omega)
    | 1, _ => exact allK_ok run_f_1 k (by omega) (by omega)
    | 2, _ => exact allK_ok run_f_2 k (by omega) (by omega)
    | 3, _ => exact allK_ok run_f_3 k (by omega) (by omega)
    | 4, _ => exact allK_ok run_f_4 k (by omega) (by omega)
    | 5, _ => exact allK_ok run_f_5 k (by omega) (by omega)
    | 6, _ => exact allK_ok run_f_6 k (by omega) (by omega)
    | 7, _ => exact allK_ok run_f_7 k (by omega) (by omega)
    | q + 8, hd => omega
theorem val_inj {x y : Ins} (h : x.val = y.val) : x = y := by
  obtain ⟨a0, a1, a2, a3, a4, a5, a6, a7, a8, a9⟩ := x
  obtain ⟨b0, b1, b2, b3, b4, b5, b6, b7, b8, b9⟩ := y
  simp only [Ins.val, Value.agg.injEq, Array.mk.injEq, List.cons.injEq, Value.int.injEq, Value.bool.injEq, true_and, and_true] at h
  obtain ⟨rfl, rfl, rfl, rfl, rfl, rfl, rfl, rfl, rfl, rfl⟩ := h
  rfl
theorem bxor_nat (a j : Nat) (ha : a < 4294967296) (hj : j < 32) : bxorV .u32 (a : Int) (p2 j) = ((a ^^^ 2 ^ j : Nat) : Int) := by
  have h2 : 2 ^ j < 4294967296 := Nat.pow_lt_pow_right (by decide) hj
  have hx : a ^^^ 2 ^ j < 4294967296 := Nat.xor_lt_two_pow (n := 32) ha h2
  unfold bxorV
  rw [show p2 j = ((2 ^ j : Nat) : Int) from rfl]
  have e1 : BitVec.ofInt IntKind.u32.bits (a : Int) = BitVec.ofNat 32 a := BitVec.ofInt_natCast 32 a
  have e2 : BitVec.ofInt IntKind.u32.bits ((2 ^ j : Nat) : Int) = BitVec.ofNat 32 (2 ^ j) := BitVec.ofInt_natCast 32 (2 ^ j)
  rw [e1, e2]
  have e3 : (BitVec.ofNat 32 a ^^^ BitVec.ofNat 32 (2 ^ j)).toNat = a ^^^ 2 ^ j := by
    rw [BitVec.toNat_xor, BitVec.toNat_ofNat, BitVec.toNat_ofNat, Nat.mod_eq_of_lt ha, Nat.mod_eq_of_lt h2]
  have e4 : ((BitVec.ofNat 32 a ^^^ BitVec.ofNat 32 (2 ^ j)).toNat : Int) = ((a ^^^ 2 ^ j : Nat) : Int) := by rw [e3]
  show IntKind.u32.wrap ((BitVec.ofNat 32 a ^^^ BitVec.ofNat 32 (2 ^ j)).toNat : Int) = _
  rw [e4]
  exact wrap_id (k := .u32) (by show (0 : Int) ≤ _; omega) (by show _ ≤ (4294967295 : Int); omega)
theorem mtV_nat (m b a : Nat) (ha : a < 4294967296) : mtV m b (a : Int) = (Nat.land a m == b) := by
  unfold mtV
  have : ((a : Int) % 18446744073709551616).toNat = a := by omega
  rw [this]
/-- one of the bits that are fixed, turned over -/
theorem turn_no {m b a j : Nat} (ha : a < 4294967296) (h : Nat.land a m = b) (hj : Nat.land m (2 ^ j) ≠ 0) : Nat.land (a ^^^ 2 ^ j) m ≠ b := by
  intro e
  have hm : m.testBit j = true := by
    cases hb : m.testBit j with
    | true => rfl
    | false =>
      exfalso
      apply hj
      apply Nat.eq_of_testBit_eq
      intro i
      show (m &&& 2 ^ j).testBit i = (0 : Nat).testBit i
      rw [Nat.testBit_and, Nat.testBit_two_pow, Nat.zero_testBit]
      by_cases hi : j = i
      · subst hi; simp [hb]
      · simp [hi]
  have h1 : (a &&& m).testBit j = ((a ^^^ 2 ^ j) &&& m).testBit j := by
    show (Nat.land a m).testBit j = (Nat.land (a ^^^ 2 ^ j) m).testBit j
    rw [h, e]
  rw [Nat.testBit_and, Nat.testBit_and, Nat.testBit_xor, Nat.testBit_two_pow, hm] at h1
  cases ha : a.testBit j <;> simp [ha] at h1
theorem walk (x : Ins) (t : Int) (w : World) (hx : x.wf) (ht : 0 ≤ t ∧ t < 256) : Calls Tryz.prog 4 #[x.val, .int .u8 t] w (Ret (.bool true) w) := by
  obtain ⟨v, z, uv, ev, rv, _, dv⟩ := enc_two x hx
  by_cases hz : z = 0
  · subst hz
    obtain ⟨o1, o2, dec, _⟩ := dv rfl
    obtain ⟨k, hk⟩ := Int.eq_ofNat_of_zero_le (show 0 ≤ x.op by omega)
    obtain ⟨b, m, hb, hm, bs, fx⟩ := fx_all k (by omega) (by omega)
    obtain ⟨n, rfl⟩ := Int.eq_ofNat_of_zero_le ht.1
    have hn : n < 256 := by have := ht.2; omega
    obtain ⟨V, rfl⟩ := Int.eq_ofNat_of_zero_le uv.1
    have hV : V < 4294967296 := by have := uv.2; omega
    have own : mtV m b (V : Int) = true := by
      obtain ⟨v', z', e', h'⟩ := fx x hx hk
      obtain ⟨rfl, rfl⟩ := enc_inj ev e'
      exact h' rfl
    have own' : Nat.land V m = b := by rw [mtV_nat m b V hV] at own; simpa using own
    have hj : n % 32 < 32 := Nat.mod_lt _ (by decide)
    obtain ⟨c, hc⟩ : ∃ c : Bool, mtV (2 ^ (n % 32)) 0 (m : Int) = !c := ⟨!(mtV (2 ^ (n % 32)) 0 (m : Int)), by simp⟩
    have hr := run_any c n hn
    unfold runB at hr
    have ok : (fCx (axF n c)).Ok (fEnv x V 0 b m w) := by
      refine ⟨bd_cons (show 0 ≤ (V : Int) ∧ (V : Int) ≤ 4294967295 by omega) (bd_cons (show 0 ≤ (m : Int) ∧ (m : Int) ≤ 4294967295 by omega) (by intro i l h e; cases e)), (by intro i l h e; cases e), fun _ => rfl, insM, ?_⟩
      intro p hp
      replace hp : p ∈ axF n c := hp
      unfold axF at hp
      rcases List.mem_cons.1 hp with rfl | hp
      · exact hc
      · cases c with
        | false => cases hp
        | true =>
          replace hp : p ∈ [(SE.bin .eq (ap 10 (otherT n)) (.var 7), false)] := hp
          simp only [List.mem_cons, List.not_mem_nil, or_false] at hp
          subst hp
          have e1 : (otherT n).int (fEnv x V 0 b m w) = ((V ^^^ 2 ^ (n % 32) : Nat) : Int) := bxor_nat V (n % 32) hV hj
          show ((decP ((otherT n).int (fEnv x V 0 b m w))).1.op == x.op) = false
          rw [e1]
          have h2 : 2 ^ (n % 32) < 4294967296 := Nat.pow_lt_pow_right (by decide) hj
          have hu : U32 ((V ^^^ 2 ^ (n % 32) : Nat) : Int) := ⟨Int.natCast_nonneg _, by have := Nat.xor_lt_two_pow (n := 32) hV h2; omega⟩
          have hs : ((decP ((V ^^^ 2 ^ (n % 32) : Nat) : Int)).1.op) ≠ x.op := by
            intro e
            rcases decode_one _ hu with ⟨y, hy, _, _, d, en⟩ | d
            · have dI : Tryz.prog.inits.idxOf? 8 = none := by kernel_rfl
              obtain ⟨q, _⟩ := tup2_inj (ret_unique dI (d default) ((decP_ok _ hu).1 default))
              have q := val_inj q
              rw [← q] at e
              obtain ⟨v', z', e', h'⟩ := fx y hy (by rw [e]; exact hk)
              obtain ⟨rfl, rfl⟩ := enc_inj en e'
              have := h' rfl
              rw [mtV_nat m b _ (by have := hu.2; omega)] at this
              refine turn_no (j := n % 32) hV own' ?_ (by simpa using this)
              intro h0
              have hc' : mtV (2 ^ (n % 32)) 0 (m : Int) = false := hc
              rw [mtV_nat _ _ m hm] at hc'
              have : Nat.land m (2 ^ (n % 32)) ≠ 0 := by simpa using hc'
              exact this h0
            · have dI : Tryz.prog.inits.idxOf? 8 = none := by kernel_rfl
              obtain ⟨q, _⟩ := tup2_inj (ret_unique dI (d default) ((decP_ok _ hu).1 default))
              have q := val_inj q
              rw [← q] at e
              have : (0 : Int) = x.op := e
              omega
          simpa using hs
    refine runF_true (cx := fCx (axF n c)) ok (sums_of ?_) insM rfl rfl (args := [instS (.var 7), .p (.c (.int .u8 (.lit (.ofNat n))))]) (vals := [x.val, .int .u8 (.ofNat n)]) rfl hr
    intro p hp
    replace hp : p ∈ fSums := hp
    simp only [fSums, List.mem_cons, List.not_mem_nil, or_false] at hp
    rcases hp with rfl | rfl | rfl | rfl
    · exact pat_s (vals := []) (x := .bool true) (fun β => rfl) (fun β => rfl) begun_any
    · exact pat_s (vals := [x.val]) (x := .tuple #[.int .u32 V, .int .i64 0]) (fun β => rfl) (fun β => rfl) rv
    · refine pat_s (vals := [.int .i64 x.op]) (x := .tuple #[.int .u32 b, .int .u32 m, .int .i64 0]) (fun β => rfl) (fun β => rfl) ?_
      rw [hk]
      exact bs
    · intro pc H args u hu ok' L β vals w' n' hW ha
      replace hu : decTwo pc H args = some u := hu
      unfold decTwo at hu
      split at hu
      · rename_i u' hu'
        cases hu
        exact pat_s (cx := fCx (axF n c)) (ρ := fEnv x V 0 b m w) (f := 8) (pat := [vS]) (v := .tup [.agg (cellsI (.var 7)), .c (.int .i64 (.lit 0))]) (vals := [.int .u32 V]) (x := .tuple #[x.val, .int .i64 0]) (fun β => rfl) (fun β => rfl) dec.2 pc H args _ hu' ok' L β vals w' n' hW ha
      · unfold decLS at hu
        split at hu
        · rename_i e _
          split at hu
          · rename_i hl
            cases hu
            cases ha
            exact ⟨_, rfl, (decP_ok (e.int (fEnv x V 0 b m w)) (u32_low (Sym.low_ok ok' hl))).1 w'⟩
          · cases hu
        · cases hu
  · have hr := bad_run
    unfold badB at hr
    have ok : badCx.Ok (fEnv x v z t 0 w) := by
      refine ⟨(by intro i l h e; cases e), (by intro i l h e; cases e), fun _ => rfl, insM, ?_⟩
      intro p hp
      replace hp : p ∈ [(SE.bin .eq (.var 9) (.lit 0), false)] := hp
      simp only [List.mem_cons, List.not_mem_nil, or_false] at hp
      subst hp
      show (z == 0) = false
      simpa using hz
    refine runF_true (cx := badCx) ok (sums_of ?_) insM rfl rfl (args := [instS (.var 7), .p (.c (.int .u8 (.var 10)))]) (vals := [x.val, .int .u8 t]) rfl hr
    intro p hp
    replace hp : p ∈ [(10, patS [] (.p (.c (.bool .tt)))), (12, patS [instS (.var 7)] (.tup [.c (.int .u32 (.var 8)), .c (.int .i64 (.var 9))]))] := hp
    simp only [List.mem_cons, List.not_mem_nil, or_false] at hp
    rcases hp with rfl | rfl
    · exact pat_s (vals := []) (x := .bool true) (fun β => rfl) (fun β => rfl) begun_any
    · exact pat_s (vals := [x.val]) (x := .tuple #[.int .u32 v, .int .i64 z]) (fun β => rfl) (fun β => rfl) rv
theorem own : ownKnob Tryz.prog.godebug = none := by kernel_rfl
theorem laidOut : laidOutB Tryz.prog = true := by kernel_rfl
set_option maxRecDepth 100000 in
theorem lifted (os : Os) (started : os.Started) (H : Type) (enc : TypeId × Value → H) :
    ReturnsInHanded {} Tryz.checked os 4 .any (Rows.decFixedSpec.pre6 enc Tryz.prog Tryz.f4 Rows.decFixedRow.domain false) (Rows.decFixedSpec.post enc Tryz.prog Tryz.f4 false true false false) := by
  refine returnsInHanded_of_change (C := Tryz.checked) own started (by kernel_rfl) Tryz.func4
    (ChangeSpec.witness6 (enc := enc) (C := Tryz.checked) false ⟨#[], #[.agg #[.int .i64 0, .bool false, .bool false, .int .i64 0, .int .i64 0, .int .i64 0, .int .i64 0, .int .i64 0, .int .i64 0, .int .i64 0], .int .u8 0], []⟩ 8 (by kernel_rfl) (by kernel_rfl) (by kernel_rfl) (by kernel_rfl)) ?_
  intro W base args ds gs before hval0 hW hcnd _
  have hval : ∀ (j : Nat) t v, Tryz.f4.params[j]? = some t → args[j]? = some v → Value.okWide Tryz.prog W .any base t v := hval0
  have hW' := hW
  obtain ⟨p, q, hA0, hV, rfl, hfz, hnd⟩ := hW
  have hA : DataW.TrodAll enc Tryz.prog W 0 (fun _ => true) true Tryz.f4.params.toList args.toList ds p := hA0
  rw [Tryz.params4] at hA hval
  obtain ⟨v0, vs0, d0, ds0, p0, q0, hargs, rfl, rfl, h0, r0⟩ := trodAll_cons hA
  obtain ⟨v1, vs1, d1, ds1, p1, q1, rfl, rfl, rfl, h1, r1⟩ := trodAll_cons r0
  obtain ⟨rfl, rfl, rfl⟩ := trodAll_nil r1
  obtain rfl : args = #[v0, v1] := by cases args; simp_all
  obtain ⟨rfl, rfl⟩ := trodVars_none hV
  have k0 := h0
  have k1 := h1
  have lt0 : ∀ x ∈ p0, x.block < W.heap.size := by obtain ⟨m, hm⟩ := k0; exact DataW.trod_lt m _ _ _ hm
  have lt1 : ∀ x ∈ p1, x.block < W.heap.size := by obtain ⟨m, hm⟩ := k1; exact DataW.trod_lt m _ _ _ hm
  obtain ⟨y0, rfl, b0⟩ := open_inst (hval 0 24 v0 rfl rfl) h0
  obtain ⟨a1, rfl, _, _, w1⟩ := open_int Tryz.underlying5 (hval 1 5 v1 rfl rfl) h1
  clear hA0 hval0
  refine (walk y0 a1 W b0 (u8_wf w1)).mono fun e W' ⟨he, bel⟩ => ?_
  subst he
  exact ⟨_, rfl, _, _, _, [], _, [], hW', trodAll_mk1 (shut_bool Tryz.underlying4 _), (trodAll_cons_mk (Below.trod laidOut (by kernel_rfl) (of_decide_eq_true (by kernel_rfl)) k0 bel lt0) (trodAll_cons_mk (Below.trod laidOut (by kernel_rfl) (of_decide_eq_true (by kernel_rfl)) k1 bel lt1) trodAll_mk0)), rfl, bel.frame _, fun h => by cases h⟩

theorem proved : Rows.DecFixedSaid :=
  OpenClaim.holds_of_wide 4 Tryz.f4 rfl rfl rfl rfl rfl rfl rfl ⟨rfl, rfl, rfl, rfl, rfl⟩ rfl rfl rfl rfl rfl (by kernel_rfl) Tryz.func4 (by kernel_rfl)
    (of_decide_eq_true (by kernel_rfl)) (by unfold Func.isWrapper; first | (rw [if_pos (by decide +kernel)]; kernel_rfl) | (rw [if_neg (by decide +kernel)]; exact ⟨rfl, rfl⟩))
    (fun os started H enc _ => lifted os started H enc)

#print axioms proved
end Go.Proofs.YtopfaapcekiojaaGreat.lawDecFixed
