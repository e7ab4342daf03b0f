/- What is fixed of each class: Base, and the words that Encode gives. -/
import Derived.Test.YtopfaapcekiojaaGreatDoorEncS
import Derived.Test.YtopfaapcekiojaaGreatDoorLogQ
import Derived.Test.YtopfaapcekiojaaGreatDoorInsF
namespace Go.Proofs.YtopfaapcekiojaaGreatDoor.Sym
open Go Go.RowKit Go.Proofs.YtopfaapcekiojaaGreatDoor
set_option linter.unusedVariables false
noncomputable section
theorem zero_none (w : Nat) : ¬ HasPat 0 w := by
  rintro ⟨⟨s, o, t⟩, ⟨p1, p2, p3, p4, p5⟩, h⟩
  dsimp only at *
  have hs : 0 < s := by omega
  have := congrArg (fun x => Nat.testBit x ((s - t) % s)) h
  simp only [valN, natOf_bit, Nat.zero_testBit] at this
  have hi : (s - t) % s < w := by have := Nat.mod_lt (s - t) hs; omega
  have h1 : oneAt s o t ((s - t) % s) = true := by
    rw [oneAt_eq, Nat.mod_add_mod, show s - t + t = s by omega, Nat.mod_self]
    exact decide_eq_true (by omega)
  rw [h1] at this
  simp [hi] at this
theorem field_zero : encF 0 32 = 0 ∧ patErr 0 32 = 20 := by
  have h : patErr 0 32 = 20 := by
    show patE 0 32 = 20
    unfold patE
    rw [if_neg (zero_none 32)]
  obtain ⟨a, b, c⟩ := enc_none (v := 0) (w := 32) (by rw [h]; decide)
  refine ⟨?_, h⟩
  unfold encF
  rw [a, b, c]
  rfl
def isZ (e w : SE) : Bool := match e, w with
  | .lit (.ofNat 0), .lit (.ofNat 32) => true
  | _, _ => false
def fieldZ (pc : PC) (H : List (Nat × Blk)) (args : List SV) : Option SV := match args with
  | [.p (.c (.int .u64 e)), .p (.c (.int .i64 w))] => match isZ e w with
    | true => some (.tup [.c (.int .i64 (.lit 0)), .c (.int .i64 (.lit 20))])
    | false => fieldS pc H args
  | _ => none
theorem isZ_ok {e w : SE} (h : isZ e w = true) : e = .lit 0 ∧ w = .lit 32 := by
  unfold isZ at h
  split at h
  · exact ⟨rfl, rfl⟩
  · cases h
theorem fieldZ_s {cx : Ctx} {ρ : Env} (hg : GoodL ρ) {f : FuncId} (h : ∀ (v w : Int) (_ : U64 v) (W : World), Calls cx.P f #[.int .u64 v, .int .i64 w] W (Ret (.tuple #[.int .i64 (encF v w), .int .i64 (patErr v w)]) W)) : SumOk cx ρ f fieldZ := by
  intro pc H args v hv ok L β vals w n hW ha
  unfold fieldZ at hv
  split at hv
  · rename_i e w'
    split at hv
    · rename_i hz
      obtain ⟨rfl, rfl⟩ := isZ_ok hz
      cases hv
      cases ha
      have := h 0 32 ⟨by decide, by decide⟩ w
      rw [field_zero.1, field_zero.2] at this
      exact ⟨_, rfl, this⟩
    · exact field_s hg h pc H _ v hv ok L β vals w n hW ha
  · cases hv
def decSums : Sums := [(82, fieldZ), (63, fieldZ)] ++ bitSums
theorem ok_decSums : AllOk Tryz.prog GoodL decSums := by
  refine AllOk.app ?_ ok_bitSums
  intro cx ρ hg _ hP p hp
  simp only [List.mem_cons, List.not_mem_nil, or_false] at hp
  rcases hp with rfl | rfl
  · exact fieldZ_s hg (fun v w hv W => by rw [hP]; exact field_any v w hv W)
  · exact fieldZ_s hg (fun v w hv W => by rw [hP]; exact rfield_any v w hv W)
def decCx (bd : List (Nat × Int × Int)) (ax : List (SE × Bool)) : Ctx := { P := Tryz.prog, bd := bd, fb := [], sums := decSums, ax := ax }
section
variable {y : Ins} {e : Nat → Int} {t : Nat → Bool} {w : World} {bd : List (Nat × Int × Int)} {ax : List (SE × Bool)}
theorem dec_cxok (hb : BdOk bd (insI y e)) (hax : ∀ p ∈ ax, p.1.tru (insEnv y e t w) = p.2) : (decCx bd ax).Ok (insEnv y e t w) := ⟨hb, (by intro i l h e; cases e), fun _ => rfl, insM, hax⟩
theorem dec_sums (W : World) : SumsOk (decCx bd ax) ((insEnv y e t w).at W) := ok_decSums.sums (insGood y e t w) (fun _ => rfl) rfl rfl
end
def baseV (b m : Nat) : SV := .tup [.c (.int .u32 (.lit (.ofNat b))), .c (.int .u32 (.lit (.ofNat m))), .c (.int .i64 (.lit 0))]
def baseQ (b m : Nat) (pc : PC) (v : SV) : Bool := v.same (baseV b m)
def bB (f : FuncId) (k b m : Nat) : Bool := chkB (decCx [] []) f [.p (.c (.int .i64 (.lit (.ofNat k))))] (baseQ b m)
theorem b_ok {f : FuncId} {k b m : Nat} (h : bB f k b m = true) (W : World) : Calls Tryz.prog f #[.int .i64 (.ofNat k)] W (Ret (.tuple #[.int .u32 (.ofNat b), .int .u32 (.ofNat m), .int .i64 0]) W) := by
  have w0 : World := default
  obtain ⟨v, pc, ok, hq, hc⟩ := chkB_calls h (ρ := insEnv y0 (fun _ => 0) (fun _ => false) w0) (dec_cxok (by intro i l h e; cases e) (by intro p hp; cases hp)) dec_sums insM (vals := [.int .i64 (.ofNat k)]) rfl
  have e : v = baseV b m := SV.same_eq hq
  subst e
  exact hc _ (fun β => rfl) W
def fixB : Nat → Nat
  | 1 => 268435456
  | 2 => 285212672
  | 3 => 301989888
  | 4 => 310378496
  | 5 => 318767104
  | 6 => 327155712
  | 7 => 1409286144
  | 8 => 335544320
  | 9 => 872415232
  | 10 => 905969664
  | 11 => 3592355840
  | 12 => 3556769792
  | 13 => 3573751839
  | 14 => 3573755935
  | 15 => 3574595584
  | 16 => 3573563423
  | 17 => 3574071296
  | 18 => 402653184
  | 19 => 671088640
  | 20 => 956301312
  | 21 => 939524096
  | 22 => 941623296
  | 23 => 134217728
  | 24 => 167772160
  | 25 => 184549376
  | 26 => 186646528
  | 27 => 436207616
  | 28 => 977272832
  | 29 => 444596224
  | 30 => 1522532352
  | 31 => 448790528
  | 32 => 452984832
  | _ => 0
def fixM : Nat → Nat
  | 1 => 520093696
  | 2 => 528482304
  | 3 => 528482304
  | 4 => 528482304
  | 5 => 528482304
  | 6 => 2141192192
  | 7 => 4278190096
  | 8 => 2080374784
  | 9 => 2113929216
  | 10 => 2113929216
  | 11 => 4263509023
  | 12 => 4278190108
  | 13 => 4294963231
  | 14 => 4294963231
  | 15 => 4291821568
  | 16 => 4294504479
  | 17 => 4292345856
  | 18 => 1056964608
  | 19 => 1006632960
  | 20 => 1056964608
  | 21 => 1059061760
  | 22 => 1059064832
  | 23 => 1056964608
  | 24 => 520093696
  | 25 => 522190848
  | 26 => 534773760
  | 27 => 534838272
  | 28 => 1071645712
  | 29 => 1071646720
  | 30 => 2147418112
  | 31 => 2145386496
  | 32 => 2130706432
  | _ => 0
theorem live_run : allTrue (runF (decCx [] []) 300 4 [] [] 0) = true := by kernel_rfl
theorem live_any (w : World) : Calls Tryz.prog 4 #[] w (Ret (.bool true) w) := by
  have ok : (decCx [] []).Ok ((insEnv y0 (fun _ => 0) (fun _ => false) w).at w) := (dec_cxok (y := y0) (e := fun _ => 0) (t := fun _ => false) (w := w) (bd := []) (ax := []) (by intro i l h e; cases e) (by intro p hp; cases hp)).at
  exact runF_true (cx := decCx [] []) ok (dec_sums w) insM rfl rfl (args := []) (vals := []) rfl live_run
end
end Go.Proofs.YtopfaapcekiojaaGreatDoor.Sym
