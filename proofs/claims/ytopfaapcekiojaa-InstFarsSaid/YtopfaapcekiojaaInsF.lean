/- The letters of an instruction; the field of a logical immediate as a function's letter. -/
import Derived.Test.YtopfaapcekiojaaSymP
import Derived.Test.YtopfaapcekiojaaLogJ
import Derived.Test.YtopfaapcekiojaaLogK
namespace Go.Proofs.Ytopfaapcekiojaa.Sym
open Go Go.RowKit Go.Proofs.Ytopfaapcekiojaa
noncomputable section

/-- the letters: 0 to 6 the fields, 7 the class, from 8 on the others -/
def instS (op : SE) : SV := .p (.agg [.int .i64 op, .bool (.bvar 0), .bool (.bvar 1), .int .i64 (.var 0), .int .i64 (.var 1), .int .i64 (.var 2), .int .i64 (.var 3), .int .i64 (.var 4), .int .i64 (.var 5), .int .i64 (.var 6)])
/-- the letters of functions: 1: the field of a logical immediate; 2: its error -/
def GoodL (ρ : Env) : Prop := (∀ a b c d, ρ.f 1 a b c d = encF a b) ∧ (∀ a b c d, ρ.f 2 a b c d = patErr a b)
theorem keepsL : Keeps GoodL := fun _ h _ _ _ => h
def inU64 (r : Option (Int × Int)) : Bool := match r with
  | some (l, h) => Sym.within .u64 l h
  | none => false
def fieldS (pc : PC) (_ : List (Nat × Blk)) (args : List SV) : Option SV := match args with
  | [.p (.c (.int .u64 e)), .p (.c (.int .i64 w))] => match inU64 (bnd pc e) with
    | true => some (.tup [.c (.int .i64 (.app 1 e w (.lit 0) (.lit 0))), .c (.int .i64 (.app 2 e w (.lit 0) (.lit 0)))])
    | false => none
  | _ => none
def fieldSums : Sums := [(89, fieldS), (101, fieldS)]
theorem inU64_ok {ρ : Env} {pc : PC} (ok : PcOk ρ pc) {e : SE} (h : inU64 (bnd pc e) = true) : U64 (e.int ρ) := by
  unfold inU64 at h
  split at h
  · rename_i l u hr
    have b := bnd_ok ok hr
    have w := within_ok h
    have m1 : IntKind.u64.min = 0 := rfl
    have m2 : IntKind.u64.max = 18446744073709551615 := rfl
    exact ⟨by omega, by omega⟩
  · cases h
theorem field_s {cx : Ctx} {ρ : Env} (hg : GoodL ρ) {f : FuncId} (h : ∀ (v w : Int) (_ : U64 v) (W : World), Calls cx.P f #[.int .u64 v, .int .i64 w] W (Ret (.tuple #[.int .i64 (encF v w), .int .i64 (patErr v w)]) W)) : SumOk cx ρ f fieldS := by
  intro pc H args v hv ok L β vals w n hW ha
  unfold fieldS at hv
  split at hv
  · rename_i e w'
    split at hv
    · rename_i hu
      cases hv
      cases ha
      refine ⟨.tuple #[.int .i64 (encF (e.int ρ) (w'.int ρ)), .int .i64 (patErr (e.int ρ) (w'.int ρ))], ?_, h _ _ (inU64_ok ok hu) w⟩
      show some (Value.tuple #[.int .i64 (ρ.f 1 (e.int ρ) (w'.int ρ) 0 0), .int .i64 (ρ.f 2 (e.int ρ) (w'.int ρ) 0 0)]) = _
      rw [hg.1, hg.2]
    · cases hv
  · cases hv
theorem ok_fieldSums : AllOk Try.prog GoodL fieldSums := by
  intro cx ρ hg _ hP p hp
  simp only [fieldSums, List.mem_cons, List.not_mem_nil, or_false] at hp
  rcases hp with rfl | rfl
  · exact field_s hg (fun v w hv W => by rw [hP]; exact field_any v w hv W)
  · exact field_s hg (fun v w hv W => by rw [hP]; exact rfield_any v w hv W)
theorem insM : Try.prog.follows .mixedOrders = true := by kernel_rfl
end
end Go.Proofs.Ytopfaapcekiojaa.Sym
