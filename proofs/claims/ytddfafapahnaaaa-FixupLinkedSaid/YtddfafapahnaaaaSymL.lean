/- The two calls of live, run. -/
import Derived.Test.YtddfafapahnaaaaSymJ
import Derived.Test.YtddfafapahnaaaaFixC
namespace Go.Proofs.Ytddfafapahnaaaa.Sym
open Go Go.RowKit Go.Proofs.Ytddfafapahnaaaa
set_option linter.unusedVariables false

/-- Check of a hole that is known -/
def chkSum (_ : PC) (_ : List (Nat × Blk)) (args : List SV) : Option SV := match args with
  | [.p (.agg [.int .i64 (.lit k), .int .i64 (.lit s), .int .i64 _, p, m])] => match isStr p && isStr m with
    | true => some (.p (.c (.int .i64 (.lit (checkE k s)))))
    | false => none
  | _ => none
def liveCx (P : Program) : Ctx := { P := P, bd := [], fb := [], sums := [(19, chkSum)] }

theorem chkSum_ok {ρ : Env} {pc : PC} {H : List (Nat × Blk)} {args : List SV} {v : SV} (h : chkSum pc H args = some v) {β : Lay} {vals : List Value} {w : World} (ha : denA ρ β args = some vals) :
    ∃ x, v.den ρ β = some x ∧ Calls Try.prog 19 vals.toArray w (Ret x w) := by
  unfold chkSum at h
  split at h
  · rename_i k s a p m
    split at h
    · rename_i hs
      simp only [Bool.and_eq_true] at hs
      cases h
      obtain ⟨u, l, hu, hl, rfl⟩ := denA_cons ha
      cases hl
      obtain ⟨cs, hcs, rfl⟩ := agg_ok hu
      obtain ⟨v1, l1, h1, hl1, rfl⟩ := denL_cons hcs
      obtain ⟨v2, l2, h2, hl2, rfl⟩ := denL_cons hl1
      obtain ⟨v3, l3, h3, hl3, rfl⟩ := denL_cons hl2
      obtain ⟨v4, l4, h4, hl4, rfl⟩ := denL_cons hl3
      obtain ⟨v5, l5, h5, hl5, rfl⟩ := denL_cons hl4
      cases hl5; cases h1; cases h2; cases h3
      obtain ⟨p', rfl⟩ := str_ok hs.1 h4
      obtain ⟨m', rfl⟩ := str_ok hs.2 h5
      exact ⟨_, rfl, check_any k s _ p' m' w⟩
    · cases h
  · cases h
theorem liveOk (w : World) : SumsOk (liveCx Try.prog) (env0 w) := by
  intro f g hf pc H args v hg _ L β vals w' n hW ha
  replace hf : lk [(19, chkSum)] f = some g := hf
  rw [lk_cons] at hf
  split at hf
  · rename_i e; cases hf; subst e; exact chkSum_ok hg ha
  · cases hf
set_option maxRecDepth 100000 in
theorem live_any (w : World) : Calls Try.prog 9 #[] w (Ret (.bool true) w) :=
  runF_true (cx := liveCx Try.prog) (ρ := env0 w) (fuel := 300) (args := []) ⟨(by intro i l h e; cases e), (by intro i l h e; cases e), fun _ => rfl, by kernel_rfl, (by intro p h; cases h), (by intro i n e x k h; cases h), (by intro k t i c m h; cases h), (by intro k t c y h; cases h)⟩ (liveOk w) (by kernel_rfl) rfl rfl rfl (by kernel_rfl)
end Go.Proofs.Ytddfafapahnaaaa.Sym
