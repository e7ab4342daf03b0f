/- FixupFills and FixupBack: a law over bytes, a hole and a number returns true where its runs do. -/
import Derived.Test.YtddfafapahnaaaaFilB
import Derived.Test.YtddfafapahnaaaaSliceW
namespace Go.Proofs.Ytddfafapahnaaaa.Fil
open Go Go.RowKit Go.Proofs.Ytddfafapahnaaaa Sym Go.Sort Go.Joins
set_option linter.unusedVariables false

theorem brow_of {w : World} {A : Option Addr} {n : Nat} {rows : List (List Value)} (h : RowsOf w A n [isInt .u8] rows) : ∃ l, BRow w A n l := by
  obtain ⟨h1, h2, h3⟩ := h
  have form : ∀ r ∈ rows, ∃ a, r = [.int .u8 a] ∧ 0 ≤ a ∧ a < 256 := fun r hr => by
    obtain ⟨v0, r1, rfl, ⟨a, rfl, wa⟩, q1⟩ := fits_cons (h2 r hr)
    obtain rfl := fits_nil q1
    exact ⟨a, rfl, u8_wf wa⟩
  refine ⟨rows.map fun r => numOf (r.getD 0 undef), by simpa using h1, fun f hf => ?_, fun hn => ?_⟩
  · obtain ⟨r, hr, rfl⟩ := List.mem_map.1 hf
    obtain ⟨a, rfl, ia⟩ := form r hr
    exact ia
  · obtain ⟨b, off, rfl, hb, hc⟩ := h3 hn
    refine ⟨b, off, rfl, hb, fun k hk => ?_⟩
    have hk' : k < rows.length := by simpa using hk
    obtain ⟨x, e, ix⟩ := form rows[k] (List.getElem_mem hk')
    have c0 := hc k hk' 0 (by simp)
    simp only [List.length_cons, List.length_nil, Nat.zero_add, Nat.add_zero, Nat.mul_one] at c0
    rw [e] at c0
    rw [List.getElem_map, e]
    exact c0
theorem mixed : Try.prog.follows .mixedOrders = true := by kernel_rfl
theorem one_byte : Try.prog.cellsOf 5 = 1 := by kernel_rfl
theorem pat_h {cx : Ctx} {ρ : Env} {f : FuncId} {pat : List SV} {v : SV} {vals : List Value} {x : Value} (hp : ∀ β, denA ρ β pat = some vals) (hx : ∀ β, v.den ρ β = some x) (h : ∀ w, Calls cx.P f vals.toArray w (Ret x w)) : SumOk cx ρ f (patS pat v) := by
  refine patS_ok fun β vs w _ ha => ?_
  rw [hp] at ha
  cases ha
  exact ⟨x, hx β, h w⟩
section
variable {w : World} {kd sz add v : Int} {pl mi : ByteArray} {nb cb : Nat} {Ab : Option Addr} {lb : List Int}
theorem byte_bd (hB : BRow w Ab nb lb) (j : Nat) : 0 ≤ lb.getD j 0 ∧ lb.getD j 0 ≤ 255 := by
  rcases Nat.lt_or_ge j lb.length with h | h
  · have := hB.2.1 (lb.getD j 0) (by rw [List.getD_eq_getElem?_getD, List.getElem?_eq_getElem h]; exact List.getElem_mem h)
    omega
  · rw [List.getD_eq_getElem?_getD, List.getElem?_eq_none h]
    simp
theorem fil_ok (k s : SE) (z : Int) (hB : BRow w Ab nb lb) (hn : nb ≤ 9223372036854775807) (hv : I64 v) : (filCx k s z).Ok (filEnv w kd sz add v pl mi nb cb Ab lb) := by
  refine ⟨?_, (by intro i l h e; cases e), fun j => ?_, mixed, (by intro p hp; cases hp), ?_, (by intro k t i c m h; cases h), ?_⟩
  · intro i lo h hi
    replace hi : lk bdF i = some (lo, h) := hi
    unfold bdF at hi
    simp only [lk_cons] at hi
    have b := byte_bd hB
    split at hi
    · rename_i q; cases hi; subst q
      have h1 := hv.1
      have h2 := hv.2
      show -9223372036854775808 ≤ v ∧ v ≤ 9223372036854775807
      omega
    split at hi
    · rename_i q; cases hi; subst q
      show 0 ≤ (nb : Int) ∧ (nb : Int) ≤ 9223372036854775807
      omega
    split at hi
    · rename_i q; cases hi; subst q; exact b 0
    split at hi
    · rename_i q; cases hi; subst q; exact b 1
    split at hi
    · rename_i q; cases hi; subst q; exact b 2
    split at hi
    · rename_i q; cases hi; subst q; exact b 3
    split at hi
    · rename_i q; cases hi; subst q; exact b 4
    split at hi
    · rename_i q; cases hi; subst q; exact b 5
    split at hi
    · rename_i q; cases hi; subst q; exact b 6
    split at hi
    · rename_i q; cases hi; subst q; exact b 7
    · cases hi
  · show (match Ab with | some a => Value.pointer (some ⟨a.block, a.off + (j - 40), none⟩) | none => .nilFunc).oneCell' = true
    cases Ab <;> rfl
  · intro i n e x m h h0 h1
    replace h : (i, n, e, x, m) ∈ iaF := h
    obtain ⟨j, hj, e'⟩ := List.mem_map.1 h
    cases e'
    have h1 : (j : Int) < (nb : Int) := h1
    obtain ⟨b, off, e, _, _⟩ := hB.2.2 (by omega)
    subst e
    refine ⟨b, off, rfl, ?_⟩
    have e1 : (40 + j) - 40 = j := by omega
    show Value.pointer (some ⟨b, off + ((40 + j) - 40), none⟩) = .pointer (some ⟨b, off + (Int.ofNat j).toNat * Try.prog.cellsOf 5, none⟩)
    rw [one_byte, e1, Nat.mul_one]
    rfl
  · intro m t c y h ht
    replace h : (m, t, c, y) ∈ flF := h
    obtain ⟨j, hj, e'⟩ := List.mem_map.1 h
    cases e'
    have h1 : (j : Int) < (nb : Int) := of_decide_eq_true ht
    obtain ⟨b, off, e, hb, hc⟩ := hB.2.2 (by omega)
    subst e
    refine ⟨⟨b, off + ((40 + j) - 40), none⟩, rfl, fun W hW => ?_⟩
    have e1 : (40 + j) - 40 = j := by omega
    have hjl : j < lb.length := by have := hB.1; omega
    have hcell := (hW.cell (p := ⟨b, off + j, none⟩) hb).trans (hc j hjl)
    have hagg : (isAgg 5).run Try.prog W = .ok false W := (run_isAggT (P := Try.prog) (t := 5) (b := false) (by kernel_rfl) W).1
    refine ⟨.int .u8 lb[j], ?_, fun β => ?_⟩
    · rw [e1]
      show (loadVar 5 _).run Try.prog W = _
      simp [loadVar, Sem.run_bind, hagg, hcell]
    · have e2 : (byL j).int (filEnv w kd sz add v pl mi nb cb (some ⟨b, off, none⟩) lb) = lb.getD j 0 := by
        simp only [List.mem_cons, List.not_mem_nil, or_false] at hj
        rcases hj with rfl | rfl | rfl | rfl | rfl | rfl | rfl | rfl <;> rfl
      show some (Value.int .u8 ((byL j).int _)) = _
      rw [e2, List.getD_eq_getElem?_getD, List.getElem?_eq_getElem hjl]; rfl
theorem fil_walk {f : FuncId} (hk : ∀ kd sz, checkB kd sz = true → filB f (.lit kd) (.lit sz) 0 = true) (hbad : filB f (.var 0) (.var 1) 1 = true) (hB : BRow w Ab nb lb) (hn : nb ≤ maxLen) (hv : I64 v) :
    Calls Try.prog f #[.slice Ab nb cb, .agg #[.int .i64 kd, .int .i64 sz, .int .i64 add, .string pl, .string mi], .int .i64 v] w (Ret (.bool true) w) := by
  have m1 : (maxLen : Nat) ≤ 9223372036854775807 := by decide
  have go : ∀ (k s : SE) (z : Int), k.int (filEnv w kd sz add v pl mi nb cb Ab lb) = kd → s.int (filEnv w kd sz add v pl mi nb cb Ab lb) = sz → checkE kd sz = z → filB f k s z = true →
      Calls Try.prog f #[.slice Ab nb cb, .agg #[.int .i64 kd, .int .i64 sz, .int .i64 add, .string pl, .string mi], .int .i64 v] w (Ret (.bool true) w) := by
    intro k s z hk hs hz hr
    unfold filB at hr
    have dh : ∀ β, denA (filEnv w kd sz add v pl mi nb cb Ab lb) β [.p (.agg (hL k s))] = some [holeV kd sz add pl mi] := by
      intro β
      show some [Value.agg #[.int .i64 (k.int _), .int .i64 (s.int _), .int .i64 add, .string pl, .string mi]] = _
      rw [hk, hs]
      rfl
    have e6 : ((filEnv w kd sz add v pl mi nb cb Ab lb).i 6).toNat = nb := Int.toNat_natCast nb
    refine runF_true (cx := filCx k s z) (ρ := filEnv w kd sz add v pl mi nb cb Ab lb) (fil_ok k s z hB (by omega) hv) (sums_of ?_) mixed rfl rfl (args := [bS, .p (.agg (hL k s)), .p (.c (iv 3))]) (vals := [.slice Ab nb cb, .agg #[.int .i64 kd, .int .i64 sz, .int .i64 add, .string pl, .string mi], .int .i64 v]) ?_ hr
    · intro p hp'
      replace hp' : p ∈ filSums k s z := hp'
      simp only [filSums, List.mem_cons, List.not_mem_nil, or_false] at hp'
      rcases hp' with rfl | rfl | rfl | rfl | rfl | rfl | rfl | rfl | rfl | rfl | rfl | rfl | rfl
      · exact pat_h (vals := []) (x := .bool true) (fun β => rfl) (fun β => rfl) live_any
      · exact pat_h dh (x := .int .i64 z) (fun β => rfl) (fun w => by have := check_any kd sz add pl mi w; rw [hz] at this; exact this)
      · exact pat_h dh (x := .int .i64 z) (fun β => rfl) (fun w => by have := rcheck_any kd sz add pl mi w; rw [hz] at this; exact this)
      · exact put_s put_any
      · exact get_s get_any
      · exact sign_s sign_any
      · exact fits64_s fits_any
      · exact ones_s ones_any
      · exact put_s rput_any
      · exact get_s rget_any
      · exact sign_s rsign_any
      · exact fits64_s rfits_any
      · exact equal_s rfl hB
    · show some [Value.slice Ab (Int.toNat _) cb, Value.agg #[.int .i64 (k.int _), .int .i64 (s.int _), .int .i64 add, .string pl, .string mi], .int .i64 v] = _
      rw [hk, hs, e6]
  cases hc : checkB kd sz with
  | false => exact go (.var 0) (.var 1) 1 rfl rfl (by unfold checkE; rw [hc]; rfl) hbad
  | true => exact go (.lit kd) (.lit sz) 0 rfl rfl (by unfold checkE; rw [hc]; rfl) (hk kd sz hc)
end
/-- the kinds and sizes there are -/
theorem kinds_all {Q : Int → Int → Prop} (h1 : Q 1 0) (h2 : Q 2 0) (h3 : Q 3 0) (h4 : Q 4 0) (h5 : Q 5 0) (h6 : Q 6 0) (h7 : Q 7 0) (h8 : Q 8 0) (h9 : Q 9 0) (h10 : Q 10 0) (h11 : Q 11 0) (h12 : Q 12 0) (g1 : Q 9 1) (g2 : Q 9 2) (g3 : Q 9 3) (kd sz : Int) (h : checkB kd sz = true) : Q kd sz := by
  have := (checkB_iff kd sz).1 h
  have c : (sz = 0 ∧ (kd = 1 ∨ kd = 2 ∨ kd = 3 ∨ kd = 4 ∨ kd = 5 ∨ kd = 6 ∨ kd = 7 ∨ kd = 8 ∨ kd = 9 ∨ kd = 10 ∨ kd = 11 ∨ kd = 12)) ∨ (kd = 9 ∧ (sz = 1 ∨ sz = 2 ∨ sz = 3)) := by omega
  rcases c with ⟨rfl, c⟩ | ⟨rfl, c⟩
  · rcases c with rfl | rfl | rfl | rfl | rfl | rfl | rfl | rfl | rfl | rfl | rfl | rfl <;> assumption
  · rcases c with rfl | rfl | rfl <;> assumption
end Go.Proofs.Ytddfafapahnaaaa.Fil
