/- FixupOne: what its runs are given. -/
import Derived.Test.YtddfafapahnaaaaSymL
import Derived.Test.YtddfafapahnaaaaSymJ
import Derived.Test.YtddfafapahnaaaaFixP
import Derived.Test.YtddfafapahnaaaaEncS
import Derived.Test.YtddfafapahnaaaaWordW
namespace Go.Proofs.Ytddfafapahnaaaa.lawFixupOne
open Go Go.RowKit Go.Proofs.Ytddfafapahnaaaa Sym
set_option linter.unusedVariables false

def iv (j : Nat) : SC := .int .i64 (.var j)
def bv (j : Nat) : SC := .bool (.bvar j)
/-- a hole: of a known kind and size, or of any -/
def hL (k s : SE) : List SC := [.int .i64 k, .int .i64 s, iv 2, .strv 0, .strv 1]
def valS : SV := .p (.agg [iv 2, .strv 0, .strv 1])
def placeL : List SC := [iv 3, iv 4, .osl 0 5]
def ptL (t g s v n nm : Nat) : List SC := [bv t, .strv nm, iv s, iv v, bv g, iv n]
noncomputable def partsS (e : SE) (_ : PC) (H : List (Nat × Blk)) (args : List SV) : Option SV := match args with
  | [v, .p (.c (.fn f [(b, 0)] []))] => match v.same valS && Nat.beq f 33 with
    | true => match lk H b with
      | some k => match lSame SC.same k.cells placeL with
        | true => some (.tup [.agg (ptL 1 2 10 11 12 2 ++ ptL 3 4 20 21 22 3), .c (.bool e)])
        | false => none
      | none => none
    | false => none
  | _ => none
def isFour (o : Option Int) : Bool := match o with
  | some n => intSame n 4
  | none => false
noncomputable def wordS (pc : PC) (_ : List (Nat × Blk)) (args : List SV) : Option SV := match lSame SV.same args [.p (.c (.osl 1 6))] with
  | true => match isFour (evalE pc (.var 6)) with
    | true => some (.tup [.c (.int .u32 (.var 50)), .c (.int .i64 (.lit 0))])
    | false => none
  | false => none
section
variable (w : World) (kd sz add sec off : Int) (n ca : Nat) (A : Option Addr) (pl mi : ByteArray) (P M : Option Pt) (nb cb : Nat) (Ab : Option Addr) (wd : Int)
/-- what the letters are -/
def oneEnv : Env :=
  { i := fun j => match j with
      | 0 => kd | 1 => sz | 2 => add | 3 => sec | 4 => off | 5 => n | 6 => nb
      | 10 => (ptv P).1.2.1 | 11 => (ptv P).1.2.2.1 | 12 => (ptv P).2
      | 20 => (ptv M).1.2.1 | 21 => (ptv M).1.2.2.1 | 22 => (ptv M).2
      | 50 => wd
      | _ => 0
    b := fun j => match j with
      | 1 => P.isSome | 2 => (ptv P).1.2.2.2 | 3 => M.isSome | 4 => (ptv M).1.2.2.2
      | _ => false
    v := fun _ => .nilFunc
    f := fun _ _ _ _ _ => 0
    p := fun _ _ _ _ _ => false
    B := w.heap.size
    w0 := w
    sl := fun j => match j with | 0 => (A, ca) | _ => (Ab, cb)
    s := fun j => match j with | 0 => pl | 1 => mi | 2 => (ptv P).1.1 | _ => (ptv M).1.1 }
end
section
variable {w : World} {kd sz add sec off : Int} {n ca : Nat} {A : Option Addr} {pl mi : ByteArray} {P M : Option Pt} {nb cb : Nat} {Ab : Option Addr} {wd : Int}
theorem placed {cx : Ctx} {β : Lay} {L : Lst} {H : List (Nat × Blk)} {m : Nat} {w' : World} (hW : WR cx.P (oneEnv w kd sz add sec off n ca A pl mi P M nb cb Ab wd) (oneEnv w kd sz add sec off n ca A pl mi P M nb cb Ab wd).B (oneEnv w kd sz add sec off n ca A pl mi P M nb cb Ab wd).w0 L β H m w') {b : Nat} {k : Blk} (hk : lk H b = some k) (hc : k.cells = placeL) :
    ∃ ad cap, β b = some (ad, cap) ∧ PlaceAt ad sec off A n ca w' := by
  obtain ⟨ad, cap, cs, cur, h1, h2, h3, h4, h5, h6, h7⟩ := hW.blk b k hk
  rw [hc] at h2
  cases h2
  have e : ((oneEnv w kd sz add sec off n ca A pl mi P M nb cb Ab wd).i 5).toNat = n := Int.toNat_natCast n
  refine ⟨ad, cap, h1, cell_pre h4 h5 (i := 0) rfl, cell_pre h4 h5 (i := 1) rfl, ?_⟩
  have := cell_pre h4 h5 (i := 2) rfl
  rw [e] at this
  exact this
theorem parts_s {cx : Ctx} (hc : cx.P = Try.prog) {l : List Sy} (hl : SRow w A n l) (e : SE) (hp : P = (part pl sec off l).getD none) (hm : M = if (part pl sec off l).isSome then (part mi sec off l).getD none else none)
    (hf : e.tru (oneEnv w kd sz add sec off n ca A pl mi P M nb cb Ab wd) = ((part pl sec off l).isSome && (part mi sec off l).isSome)) : SumOk cx (oneEnv w kd sz add sec off n ca A pl mi P M nb cb Ab wd) 32 (partsS e) := by
  intro pc H args v hg ok L β vals w' m' hW ha
  unfold partsS at hg
  split at hg
  · rename_i v0 f b
    split at hg
    · rename_i hs
      simp only [Bool.and_eq_true] at hs
      have ef := Nat.eq_of_beq_eq_true hs.2
      split at hg
      · rename_i k hk
        split at hg
        · rename_i hcs
          obtain ⟨ad, cap, hb, hpl⟩ := placed hW hk (lSame_eq (fun _ _ h => SC.same_eq h) hcs)
          rw [SV.same_eq hs.1] at ha
          obtain ⟨v1, l1, h1, hl1, rfl⟩ := denA_cons ha
          obtain ⟨v2, l2, h2, hl2, rfl⟩ := denA_cons hl1
          cases hl2
          cases h1
          obtain ⟨p, r, hp1, hr1, rfl⟩ := fn_ok (ρ := (oneEnv w kd sz add sec off n ca A pl mi P M nb cb Ab wd)) h2
          simp only [ptrs, hb] at hp1 hr1
          cases hp1; cases hr1
          subst ef
          have hS : SRow w' A n l := hl.keep hW.below
          have hcall := parts_any ad sec off A n ca l add pl mi w' hpl hS
          rw [← hc] at hcall
          cases hg
          refine ⟨.tuple #[.agg (partC P ++ partC M).toArray, .bool ((part pl sec off l).isSome && (part mi sec off l).isSome)], ?_, hcall.mono ?_⟩
          · show some _ = some _
            rw [← hf]
            rfl
          · rintro e' w2 ⟨hb2, he⟩
            refine ⟨?_, hb2⟩
            rw [hp, hm]
            cases h1 : part pl sec off l with
            | none => rw [h1] at he; cases h2 : part mi sec off l <;> (rw [h2] at he; exact he)
            | some a =>
              rw [h1] at he
              cases h2 : part mi sec off l with
              | none => rw [h2] at he; exact he
              | some c => rw [h2] at he; exact he
        · cases hg
      · cases hg
    · cases hg
  · cases hg
theorem word_s {cx : Ctx} (hc : cx.P = Try.prog) {lb : List Int} (hb : BRow w Ab nb lb) (hn : nb ≤ 9223372036854775807) (hw : wd = wordI lb) : SumOk cx (oneEnv w kd sz add sec off n ca A pl mi P M nb cb Ab wd) 47 wordS := by
  intro pc H args v hg ok L β vals w' m' hW ha
  unfold wordS at hg
  split at hg
  · rename_i hs
    split at hg
    · rename_i h4
      cases hg
      rw [lSame_eq (fun _ _ h => SV.same_eq h) hs] at ha
      have e : ((oneEnv w kd sz add sec off n ca A pl mi P M nb cb Ab wd).i 6).toNat = nb := Int.toNat_natCast nb
      have ha' : some [Value.slice Ab ((oneEnv w kd sz add sec off n ca A pl mi P M nb cb Ab wd).i 6).toNat cb] = some vals := ha
      rw [e] at ha'
      cases ha'
      have n4 : (nb : Int) = 4 := by
        unfold isFour at h4
        split at h4
        · rename_i k hk
          have := evalE_ok ok hk
          have q : ((oneEnv w kd sz add sec off n ca A pl mi P M nb cb Ab wd).i 6) = k := this
          have q : (nb : Int) = k := q
          rw [q, intSame_eq h4]
        · cases h4
      have l4 : lb.length = 4 := by have := hb.1; omega
      have hS : BRow w' Ab nb lb := hb.keep hW.below
      have h := word_any Ab nb cb lb w' hS hn
      refine ⟨.tuple #[.int .u32 (wordI lb), .int .i64 (wordE lb)], ?_, by rw [hc]; exact h⟩
      have e0 : wordE lb = 0 := if_pos l4
      rw [e0, ← hw]
      rfl
    · cases hg
  · cases hg
end
def caseL (k s : SE) : SV := .p (.agg [.int .i64 k, .int .i64 s, iv 2, .strv 0, .strv 1, iv 3, iv 4, .osl 0 5])
def bS : SV := .p (.c (.osl 1 6))
noncomputable def oneSums (k s : SE) (z : Int) (e : SE) : Sums := [(9, patS [] (.p (.c (.bool .tt)))), (19, patS [.p (.agg (hL k s))] (.p (.c (.int .i64 (.lit z))))), (32, partsS e), (47, wordS), (70, putS32), (60, onesS), (59, fits64S)]
def bdO : List (Nat × Int × Int) := [(5, 0, 9223372036854775807), (6, 0, 9223372036854775807), (50, 0, 4294967295)]
noncomputable def oneCx (k s : SE) (z : Int) (e : SE) : Ctx := { P := Try.prog, bd := bdO, fb := [], sums := oneSums k s z e }
noncomputable def oneB (k s : SE) (z : Int) (e : SE) : Bool := allTrue (runF (oneCx k s z e) 300 6 [caseL k s, bS] [] 0)
end Go.Proofs.Ytddfafapahnaaaa.lawFixupOne
