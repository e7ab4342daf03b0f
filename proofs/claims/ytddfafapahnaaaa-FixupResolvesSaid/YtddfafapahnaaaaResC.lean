/- The law FixupResolves holds of every case, by a run of the executor. -/
import Derived.Test.YtddfafapahnaaaaResB
namespace Go.Proofs.Ytddfafapahnaaaa.Sym
open Go Go.RowKit Go.Proofs.Ytddfafapahnaaaa
set_option linter.unusedVariables false

theorem res_run0 : allTrue (runF (resCx Try.prog 0) 300 3 [caseS] [] 0) = true := by kernel_rfl
theorem res_run1 : allTrue (runF (resCx Try.prog 1) 300 3 [caseS] [] 0) = true := by kernel_rfl
theorem res_run2 : allTrue (runF (resCx Try.prog 2) 300 3 [caseS] [] 0) = true := by kernel_rfl
theorem res_run3 : allTrue (runF (resCx Try.prog 3) 300 3 [caseS] [] 0) = true := by kernel_rfl
theorem res_run (m : Nat) (h : m < 4) : allTrue (runF (resCx Try.prog m) 300 3 [caseS] [] 0) = true := by
  have hm : m = 0 ∨ m = 1 ∨ m = 2 ∨ m = 3 := by omega
  rcases hm with rfl | rfl | rfl | rfl
  · exact res_run0
  · exact res_run1
  · exact res_run2
  · exact res_run3
theorem res_follows : Try.prog.follows .mixedOrders = true := by kernel_rfl
theorem resEnv_ok (w : World) (kd sz add sec off : Int) (n ca : Nat) (hn : n ≤ maxLen) (A : Option Addr) (pl mi : ByteArray) (P M R : Option Pt) (q : Bool) (m : Nat) : (resCx Try.prog m).Ok (resEnv w kd sz add sec off n ca A pl mi P M R q) := by
  refine ⟨?_, (by intro i l h e; cases e), fun _ => rfl, res_follows⟩
  intro i l h e
  replace e : lk [(5, (0, 9223372036854775808))] i = some (l, h) := e
  rw [lk_cons] at e
  split at e
  · rename_i hi
    cases e
    subst hi
    have : ((n : Nat) : Int) ≤ (maxLen : Nat) := by omega
    have h2 : ((maxLen : Nat) : Int) ≤ 9223372036854775808 := by decide
    exact ⟨Int.natCast_nonneg n, by show (n : Int) ≤ _; omega⟩
  · cases e
set_option maxRecDepth 100000 in
theorem resolves_any (kd sz add sec off : Int) (n ca : Nat) (A : Option Addr) (pl mi : ByteArray) (l : List Sy) (w : World) (hl : SRow w A n l) :
    Calls Try.prog 3 #[.agg #[.int .i64 kd, .int .i64 sz, .int .i64 add, .string pl, .string mi, .int .i64 sec, .int .i64 off, .slice A n ca]] w (Ret (.bool true) w) := by
  have hn : n ≤ maxLen := hl.2.1
  have go : ∀ (m : Nat) (P M R : Option Pt) (q : Bool), m < 4 → SumsOk (resCx Try.prog m) (resEnv w kd sz add sec off n ca A pl mi P M R q) →
      Calls Try.prog 3 #[.agg #[.int .i64 kd, .int .i64 sz, .int .i64 add, .string pl, .string mi, .int .i64 sec, .int .i64 off, .slice A n ca]] w (Ret (.bool true) w) := by
    intro m P M R q hm hs
    refine runF_true (cx := resCx Try.prog m) (fuel := 300) (args := [caseS]) (resEnv_ok w kd sz add sec off n ca hn A pl mi P M R q m) hs res_follows rfl rfl (w := w) (vals := [.agg #[.int .i64 kd, .int .i64 sz, .int .i64 add, .string pl, .string mi, .int .i64 sec, .int .i64 off, .slice A n ca]]) ?_ (res_run m hm)
    have e : (((resEnv w kd sz add sec off n ca A pl mi P M R q).i 5).toNat) = n := Int.toNat_natCast n
    show some [Value.agg #[.int .i64 kd, .int .i64 sz, .int .i64 add, .string pl, .string mi, .int .i64 sec, .int .i64 off, .slice A (((resEnv w kd sz add sec off n ca A pl mi P M R q).i 5).toNat) ca]] = _
    rw [e]
  cases hb : checkB kd sz with
  | false =>
    have e1 : checkE kd sz = 1 := by unfold checkE; rw [hb]; rfl
    refine go 0 none none none false (by omega) (sums_of ?_)
    intro p hp
    replace hp : p ∈ resSums 0 := hp
    simp only [resSums, List.mem_cons, List.not_mem_nil, or_false] at hp
    rcases hp with rfl | rfl | rfl
    · exact live_s rfl
    · exact hole_s (fun β => rfl) (fun w => by have := check_any kd sz add pl mi w; rw [e1] at this; exact this)
    · exact hole_s (fun β => rfl) (fun w => by have := rcheck_any kd sz add pl mi w; rw [e1] at this; exact this)
  | true =>
    have e0 : checkE kd sz = 0 := by unfold checkE; rw [hb]; rfl
    have common : ∀ (m : Nat) (P M R : Option Pt) (q : Bool) p, p ∈ ((9, patS [] (.p (.c (.bool .tt)))) ::
        (19, patS [holeS] (.p (.c (.int .i64 (.lit 0))))) ::
        (20, patS [holeS] (.p (.c (.int .i64 (.lit 0))))) ::
        (16, typeS) :: (17, typeS) ::
        (37, fitsS) :: (41, fitsS) ::
        (36, patS [holeS] (.p (.c (bv 10)))) :: (13, patS [holeS] (.p (.c (bv 10)))) ::
        (46, patS [holeS] (.p (.c (bv 11)))) :: (40, patS [holeS] (.p (.c (.bool (.un .not (.bin .or (.bvar 10) (.bvar 11))))))) :: [] : Sums) →
        SumOk (resCx Try.prog m) (resEnv w kd sz add sec off n ca A pl mi P M R q) p.1 p.2 := by
      intro m P M R q p hp
      simp only [List.mem_cons, List.not_mem_nil, or_false] at hp
      rcases hp with rfl | rfl | rfl | rfl | rfl | rfl | rfl | rfl | rfl | rfl | rfl
      · exact live_s rfl
      · exact hole_s (fun β => rfl) (fun w => by have := check_any kd sz add pl mi w; rw [e0] at this; exact this)
      · exact hole_s (fun β => rfl) (fun w => by have := rcheck_any kd sz add pl mi w; rw [e0] at this; exact this)
      · exact type_s hb (fun far w => type_any kd sz add pl mi far w)
      · exact type_s hb (fun far w => rtype_any kd sz add pl mi far w)
      · exact fits_s (fun v w => hfits_any kd sz add pl mi v w)
      · exact fits_s (fun v w => rhfits_any kd sz add pl mi v w)
      · exact hole_s (fun β => rfl) (fun w => near_any kd sz add pl mi w)
      · exact hole_s (fun β => rfl) (fun w => by have := rnear_any kd sz add pl mi w; rw [← near_ref hb] at this; exact this)
      · exact hole_s (fun β => rfl) (fun w => pages_any kd sz add pl mi w)
      · exact hole_s (fun β => rfl) (fun w => by have := rdata_any kd sz add pl mi w; rw [← data_ref hb] at this; exact this)
    have two : ∀ (m : Nat) (P M R : Option Pt) (q : Bool), m ≠ 0 → (∀ p ∈ pieces m, SumOk (resCx Try.prog m) (resEnv w kd sz add sec off n ca A pl mi P M R q) p.1 p.2) → SumsOk (resCx Try.prog m) (resEnv w kd sz add sec off n ca A pl mi P M R q) := by
      intro m P M R q h0 hp
      refine sums_of ?_
      intro p hm
      obtain ⟨m, rfl⟩ : ∃ k, m = k + 1 := ⟨m - 1, by omega⟩
      replace hm : p ∈ _ ++ pieces (m + 1) := hm
      rcases List.mem_append.1 hm with hm | hm
      · exact common _ P M R q p hm
      · exact hp p hm
    cases h1 : part pl sec off l with
    | none =>
      refine go 2 none none ((part mi sec off l).getD none) (part mi sec off l).isSome (by omega) (two 2 _ _ _ _ (by omega) ?_)
      intro p hp
      simp only [pieces, List.mem_cons, List.not_mem_nil, or_false] at hp
      rcases hp with rfl | rfl
      · exact parts_s rfl hl .ff (by rw [h1]; rfl) (by rw [h1]; rfl) (by rw [h1]; rfl)
      · exact find_s rfl hl .ff (.bvar 7) 8 42 40 41 (by rw [h1]; rfl) (by rw [h1]; rfl) (termC_form _).symm rfl
    | some P =>
      cases h2 : part mi sec off l with
      | none =>
        refine go 3 P none none false (by omega) (two 3 _ _ _ _ (by omega) ?_)
        intro p hp
        simp only [pieces, List.mem_cons, List.not_mem_nil, or_false] at hp
        rcases hp with rfl | rfl
        · exact parts_s rfl hl .ff (by rw [h1]; rfl) (by rw [h1, h2]; rfl) (by rw [h1, h2]; rfl)
        · exact find_s rfl hl .tt .ff 3 22 20 21 (by rw [h1]; rfl) (by rw [h1]; rfl) (by rw [h2]; rfl) (by rw [h2]; rfl)
      | some M =>
        refine go 1 P M none false (by omega) (two 1 _ _ _ _ (by omega) ?_)
        intro p hp
        simp only [pieces, List.mem_cons, List.not_mem_nil, or_false] at hp
        rcases hp with rfl | rfl
        · exact parts_s rfl hl .tt (by rw [h1]; rfl) (by rw [h1, h2]; rfl) (by rw [h1, h2]; rfl)
        · exact find_s rfl hl .tt .tt 3 22 20 21 (by rw [h1]; rfl) (by rw [h1]; rfl) (by rw [h2]; exact (termC_form M).symm) (by rw [h2]; rfl)
end Go.Proofs.Ytddfafapahnaaaa.Sym
