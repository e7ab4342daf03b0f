/- The law FixupResolves, by a run of the executor. -/
import Derived.Test.YtddfafapahnaaaaResA
namespace Go.Proofs.Ytddfafapahnaaaa.Sym
open Go Go.RowKit Go.Proofs.Ytddfafapahnaaaa
set_option linter.unusedVariables false

theorem relT_far (kd sz : Int) (h : checkB kd sz = true) : (typeT kd sz true).2 = if decide ((typeT kd sz true).2 = 0) then 0 else 180 := by
  unfold typeT
  rw [h]
  simp only [if_true]
  by_cases h1 : kd = 11
  · simp [h1]
  · by_cases h2 : kd = 12
    · simp [h2]
    · simp [h1, h2]
theorem relT_near (kd sz : Int) (h : checkB kd sz = true) : (typeT kd sz false).2 = if decide ((typeT kd sz false).2 = 0) then 0 else 180 := by
  unfold typeT
  rw [h]
  simp only [if_true, Bool.false_eq_true, if_false]
  by_cases h1 : kd = 10
  · simp [h1]
  · simp [h1]
theorem near_ref {kd sz : Int} (h : checkB kd sz = true) : nearB kd = decide (kd ≤ 6) := by
  have := (checkB_iff kd sz).1 h
  unfold nearB
  rw [decide_eq_true (by omega : 1 ≤ kd)]
  simp
theorem data_ref {kd sz : Int} (h : checkB kd sz = true) : (!(nearB kd || pagesB kd)) = decide (10 ≤ kd) := by
  have := (checkB_iff kd sz).1 h
  unfold nearB pagesB
  by_cases h1 : 10 ≤ kd
  · simp [h1]; omega
  · simp [h1]; omega
theorem termC_form (P : Option Pt) : termC P = [.bool P.isSome, .int .i64 (ptv P).2, .int .i64 (ptv P).1.2.1, .int .i64 (ptv P).1.2.2.1] := by cases P <;> rfl

section
variable (w : World) (kd sz add sec off : Int) (n ca : Nat) (A : Option Addr) (pl mi : ByteArray) (P M R : Option Pt) (q : Bool)
/-- what the letters are -/
def resEnv : Env :=
  { i := fun j => match j with
      | 0 => kd | 1 => sz | 2 => add | 3 => sec | 4 => off | 5 => n
      | 10 => (ptv P).1.2.1 | 11 => (ptv P).1.2.2.1 | 12 => (ptv P).2
      | 20 => (ptv M).1.2.1 | 21 => (ptv M).1.2.2.1 | 22 => (ptv M).2
      | 30 => (typeT kd sz true).1 | 31 => (typeT kd sz false).1
      | 40 => (ptv R).1.2.1 | 41 => (ptv R).1.2.2.1 | 42 => (ptv R).2
      | _ => 0
    b := fun j => match j with
      | 1 => P.isSome | 2 => (ptv P).1.2.2.2 | 3 => M.isSome | 4 => (ptv M).1.2.2.2
      | 5 => decide ((typeT kd sz true).2 = 0) | 6 => decide ((typeT kd sz false).2 = 0)
      | 7 => q | 8 => R.isSome | 10 => nearB kd | 11 => pagesB kd
      | _ => false
    v := fun _ => .nilFunc
    f := fun _ _ _ _ _ => 0
    p := fun _ a _ _ _ => fitsH kd sz a
    B := w.heap.size
    w0 := w
    sl := fun _ => (A, ca)
    s := fun j => match j with | 0 => pl | 1 => mi | 2 => (ptv P).1.1 | _ => (ptv M).1.1 }
end
section
variable {w : World} {kd sz add sec off : Int} {n ca : Nat} {A : Option Addr} {pl mi : ByteArray} {P M R : Option Pt} {q : Bool}
theorem hole_den (β : Lay) : denA (resEnv w kd sz add sec off n ca A pl mi P M R q) β [holeS] = some [holeV kd sz add pl mi] := rfl
theorem live_s {cx : Ctx} (hc : cx.P = Try.prog) {ρ : Env} : SumOk cx ρ 9 (patS [] (.p (.c (.bool .tt)))) := by
  refine patS_ok fun β vals w _ ha => ?_
  cases ha
  exact ⟨_, rfl, by rw [hc]; exact live_any w⟩
theorem hole_s {cx : Ctx} {f : FuncId} {v : SV} {x : Value} (hx : ∀ β, v.den (resEnv w kd sz add sec off n ca A pl mi P M R q) β = some x) (h : ∀ w, Calls cx.P f #[holeV kd sz add pl mi] w (Ret x w)) : SumOk cx (resEnv w kd sz add sec off n ca A pl mi P M R q) f (patS [holeS] v) := by
  refine patS_ok fun β vals w _ ha => ?_
  rw [hole_den] at ha
  cases ha
  exact ⟨x, hx β, h w⟩
theorem type_s {cx : Ctx} {f : FuncId} (hb : checkB kd sz = true) (h : ∀ far w, Calls cx.P f #[holeV kd sz add pl mi, .bool far] w (Ret (typeV kd sz far) w)) : SumOk cx (resEnv w kd sz add sec off n ca A pl mi P M R q) f typeS := by
  intro H args v hg β vals w' m hW ha
  unfold typeS at hg
  split at hg
  · rename_i hs
    cases hg
    rw [lSame_eq (fun _ _ h => SV.same_eq h) hs] at ha
    cases ha
    refine ⟨typeV kd sz true, ?_, h true w'⟩
    show some _ = some _
    unfold typeV
    rw [relT_far kd sz hb]
    rfl
  · split at hg
    · rename_i hs
      cases hg
      rw [lSame_eq (fun _ _ h => SV.same_eq h) hs] at ha
      cases ha
      refine ⟨typeV kd sz false, ?_, h false w'⟩
      show some _ = some _
      unfold typeV
      rw [relT_near kd sz hb]
      rfl
    · cases hg
theorem fits_s {cx : Ctx} {f : FuncId} (h : ∀ v w, Calls cx.P f #[holeV kd sz add pl mi, .int .i64 v] w (Ret (.bool (fitsH kd sz v)) w)) : SumOk cx (resEnv w kd sz add sec off n ca A pl mi P M R q) f fitsS := by
  intro H args v hg β vals w' m hW ha
  unfold fitsS at hg
  split at hg
  · rename_i hh e
    split at hg
    · rename_i hs
      cases hg
      rw [SV.same_eq hs] at ha
      cases ha
      exact ⟨_, rfl, h _ w'⟩
    · cases hg
  · cases hg
theorem placed {cx : Ctx} {β : Lay} {H : List (Nat × Blk)} {m : Nat} {w' : World} (hW : WR cx.P (resEnv w kd sz add sec off n ca A pl mi P M R q) (resEnv w kd sz add sec off n ca A pl mi P M R q).B (resEnv w kd sz add sec off n ca A pl mi P M R q).w0 β H m w') {b : Nat} {k : Blk} (hk : lk H b = some k) (hc : k.cells = placeL) : ∃ ad cap, β b = some (ad, cap) ∧ PlaceAt ad sec off A n ca w' := by
  obtain ⟨ad, cap, cs, cur, h1, h2, h3, h4, h5, h6, h7⟩ := hW.blk b k hk
  rw [hc] at h2
  cases h2
  have e : ((resEnv w kd sz add sec off n ca A pl mi P M R q).i 5).toNat = n := Int.toNat_natCast n
  refine ⟨ad, cap, h1, cell_pre h4 h5 (i := 0) rfl, cell_pre h4 h5 (i := 1) rfl, ?_⟩
  have := cell_pre h4 h5 (i := 2) rfl
  rw [e] at this
  exact this
theorem parts_s {cx : Ctx} (hc : cx.P = Try.prog) {l : List Sy} (hl : SRow w A n l) (e : SE) (hp : P = (part pl sec off l).getD none) (hm : M = if (part pl sec off l).isSome then (part mi sec off l).getD none else none)
    (hf : e.tru (resEnv w kd sz add sec off n ca A pl mi P M R q) = ((part pl sec off l).isSome && (part mi sec off l).isSome)) : SumOk cx (resEnv w kd sz add sec off n ca A pl mi P M R q) 32 (partsS e) := by
  intro H args v hg β vals w' m' hW ha
  unfold partsS at hg
  split at hg
  · rename_i v0 f b
    split at hg
    · rename_i hs
      simp only [Bool.and_eq_true] at hs
      have ef := Nat.eq_of_beq_eq_true hs.2
      split at hg
      · rename_i k hk
        split at hg
        · rename_i hcs
          obtain ⟨ad, cap, hb, hpl⟩ := placed hW hk (lSame_eq (fun _ _ h => SC.same_eq h) hcs)
          rw [SV.same_eq hs.1] at ha
          obtain ⟨v1, l1, h1, hl1, rfl⟩ := denA_cons ha
          obtain ⟨v2, l2, h2, hl2, rfl⟩ := denA_cons hl1
          cases hl2
          cases h1
          obtain ⟨p, r, hp1, hr1, rfl⟩ := fn_ok (ρ := (resEnv w kd sz add sec off n ca A pl mi P M R q)) h2
          simp only [ptrs, hb] at hp1 hr1
          cases hp1; cases hr1
          subst ef
          have hS : SRow w' A n l := hl.keep hW.below
          have hcall := parts_any ad sec off A n ca l add pl mi w' hpl hS
          rw [← hc] at hcall
          cases hg
          refine ⟨.tuple #[.agg (partC P ++ partC M).toArray, .bool ((part pl sec off l).isSome && (part mi sec off l).isSome)], ?_, hcall.mono ?_⟩
          · show some _ = some _
            rw [← hf]
            rfl
          · rintro e' w2 ⟨hb2, he⟩
            refine ⟨?_, hb2⟩
            rw [hp, hm]
            cases h1 : part pl sec off l with
            | none => rw [h1] at he; cases h2 : part mi sec off l <;> (rw [h2] at he; exact he)
            | some a =>
              rw [h1] at he
              cases h2 : part mi sec off l with
              | none => rw [h2] at he; exact he
              | some c => rw [h2] at he; exact he
        · cases hg
      · cases hg
    · cases hg
  · cases hg
theorem findV_form (x : Option (Option Pt)) : findV x = .tuple #[.agg #[.bool (x.getD none).isSome, .int .i64 (ptv (x.getD none)).2, .int .i64 (ptv (x.getD none)).1.2.1, .int .i64 (ptv (x.getD none)).1.2.2.1], .bool x.isSome] := by
  cases x with
  | none => rfl
  | some p => cases p <;> rfl
theorem find_s {cx : Ctx} (hc : cx.P = Try.prog) {l : List Sy} (hl : SRow w A n l) (e1 e2 : SE) (t m s v : Nat) (hp : P = (part pl sec off l).getD none) (hf1 : e1.tru (resEnv w kd sz add sec off n ca A pl mi P M R q) = (part pl sec off l).isSome)
    (hm : ([.bool ((resEnv w kd sz add sec off n ca A pl mi P M R q).b t), .int .i64 ((resEnv w kd sz add sec off n ca A pl mi P M R q).i m), .int .i64 ((resEnv w kd sz add sec off n ca A pl mi P M R q).i s), .int .i64 ((resEnv w kd sz add sec off n ca A pl mi P M R q).i v)] : List Value) = termC ((part mi sec off l).getD none)) (hf2 : e2.tru (resEnv w kd sz add sec off n ca A pl mi P M R q) = (part mi sec off l).isSome) : SumOk cx (resEnv w kd sz add sec off n ca A pl mi P M R q) 38 (findS e1 e2 t m s v) := by
  intro H args u hg β vals w' m' hW ha
  have hS : SRow w' A n l := hl.keep hW.below
  have e : ((resEnv w kd sz add sec off n ca A pl mi P M R q).i 5).toNat = n := Int.toNat_natCast n
  unfold findS at hg
  split at hg
  · rename_i hs
    rw [lSame_eq (fun _ _ h => SV.same_eq h) hs] at ha
    cases ha
    cases hg
    refine ⟨findV (part pl sec off l), ?_, ?_⟩
    · rw [findV_form, ← hp, ← hf1]
      rfl
    · have := rfind_any sec off A n ca l pl w' hS
      rw [← hc] at this
      rw [e]
      exact this
  · split at hg
    · rename_i hs
      rw [lSame_eq (fun _ _ h => SV.same_eq h) hs] at ha
      cases ha
      cases hg
      refine ⟨findV (part mi sec off l), ?_, ?_⟩
      · rw [findV_form, ← hf2]
        have := congrArg (fun x : List Value => x.toArray) (hm.trans (termC_form _))
        show some (Value.tuple #[.agg ([.bool ((resEnv w kd sz add sec off n ca A pl mi P M R q).b t), .int .i64 ((resEnv w kd sz add sec off n ca A pl mi P M R q).i m), .int .i64 ((resEnv w kd sz add sec off n ca A pl mi P M R q).i s), .int .i64 ((resEnv w kd sz add sec off n ca A pl mi P M R q).i v)] : List Value).toArray, .bool (e2.tru (resEnv w kd sz add sec off n ca A pl mi P M R q))]) = _
        exact congrArg (fun x => some (Value.tuple #[.agg x, .bool (e2.tru (resEnv w kd sz add sec off n ca A pl mi P M R q))])) this
      · have := rfind_any sec off A n ca l mi w' hS
        rw [← hc] at this
        rw [e]
        exact this
    · cases hg
end
end Go.Proofs.Ytddfafapahnaaaa.Sym
