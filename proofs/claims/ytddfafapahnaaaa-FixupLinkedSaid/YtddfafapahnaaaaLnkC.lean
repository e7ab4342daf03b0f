/- FixupLinked: the letters are within their bounds; what is read of the symbols; parts. -/
import Derived.Test.YtddfafapahnaaaaLnkB
namespace Go.Proofs.Ytddfafapahnaaaa.Lnk
open Go Go.RowKit Go.Proofs.Ytddfafapahnaaaa Sym Go.Sort
set_option linter.unusedVariables false

theorem mixed : Try.prog.follows .mixedOrders = true := by kernel_rfl
theorem four : Try.prog.cellsOf 44 = 4 := by kernel_rfl
theorem pt_bd {w : World} {A : Option Addr} {n : Nat} {l : List Sy} (hl : SRow w A n l) {sec off : Int} (hs : I64 sec) (ho : I64 off) (nm : ByteArray) :
    I64 (ptv ((part nm sec off l).getD none)).1.2.1 ∧ I64 (ptv ((part nm sec off l).getD none)).1.2.2.1 ∧ -1 ≤ (ptv ((part nm sec off l).getD none)).2 ∧ (ptv ((part nm sec off l).getD none)).2 ≤ 9223372036854775807 ∧
      (((part nm sec off l).getD none).isSome = true → (ptv ((part nm sec off l).getD none)).2 < (n : Int)) := by
  have hn : n ≤ maxLen := hl.2.1
  have m1 : (maxLen : Nat) ≤ 9223372036854775807 := by decide
  have z : I64 0 := ⟨by decide, by decide⟩
  cases h : part nm sec off l with
  | none => exact ⟨z, z, by decide, by decide, fun h => by cases h⟩
  | some P =>
    cases P with
    | none => exact ⟨z, z, by decide, by decide, fun h => by cases h⟩
    | some p =>
      rcases part_is h with rfl | ⟨k, h1, h2, h3⟩
      · exact ⟨hs, ho, by show (-1 : Int) ≤ -1; decide, by show (-1 : Int) ≤ 9223372036854775807; decide, fun _ => by show (-1 : Int) < n; omega⟩
      · have hk : k < l.length := by
          rcases Nat.lt_or_ge k l.length with h | h
          · exact h
          · rw [List.getElem?_eq_none h] at h2; cases h2
        rw [List.getElem?_eq_getElem hk] at h2
        have h2 := Option.some.inj h2
        have hI := hl.2.2.1 p.1 (by rw [← h2]; exact List.getElem_mem hk)
        have hlen := hl.1
        refine ⟨hI.1, hI.2, ?_, ?_, fun _ => ?_⟩
        · show -1 ≤ p.2; omega
        · show p.2 ≤ _; omega
        · show p.2 < _; omega
theorem getD_bd {l : List Int} (h : ∀ v ∈ l, I64 v) (j : Nat) : I64 (l.getD j 0) := by
  rcases Nat.lt_or_ge j l.length with hj | hj
  · rw [List.getD_eq_getElem?_getD, List.getElem?_eq_getElem hj]
    exact h _ (List.getElem_mem hj)
  · rw [List.getD_eq_getElem?_getD, List.getElem?_eq_none hj]
    exact ⟨by decide, by decide⟩
theorem wide_of {x : Int} (h : I64 x) : wide.1 ≤ x ∧ x ≤ wide.2 := by
  have h1 := h.1
  have h2 := h.2
  show -9223372036854775808 ≤ x ∧ x ≤ 9223372036854775807
  omega
section
variable {w : World} {kd sz add sec off : Int} {n ca : Nat} {A : Option Addr} {pl mi : ByteArray} {P M : Option Pt} {ns cs : Nat} {SA : Option Addr} {S : List Int} {ne ce : Nat} {EA : Option Addr} {E : List Int}
variable {ρ : Env} (hρ : ρ = lnkEnv w kd sz add sec off n ca A pl mi P M ns cs SA S ne ce EA E)
include hρ
set_option maxHeartbeats 4000000 in
theorem bd_ok {l : List Sy} (hl : SRow w A n l) (hS : NRow w SA ns S) (hE : NRow w EA ne E) (ha : I64 add) (hs : I64 sec) (ho : I64 off) (hP : P = (part pl sec off l).getD none ∨ P = none) (hM : M = (part mi sec off l).getD none ∨ M = none) :
    ∀ i lo h, lk bdL i = some (lo, h) → lo ≤ ρ.i i ∧ ρ.i i ≤ h := by
  have hn : n ≤ maxLen := hl.2.1
  have hns : ns ≤ maxLen := hS.2.1
  have hne : ne ≤ maxLen := hE.2.1
  have m1 : (maxLen : Nat) ≤ 9223372036854775807 := by decide
  have z0 : I64 0 := ⟨by decide, by decide⟩
  have p : I64 (ptv P).1.2.1 ∧ I64 (ptv P).1.2.2.1 ∧ -1 ≤ (ptv P).2 ∧ (ptv P).2 ≤ 9223372036854775807 := by
    rcases hP with e | e
    · have q := pt_bd hl hs ho pl
      rw [← e] at q
      exact ⟨q.1, q.2.1, q.2.2.1, q.2.2.2.1⟩
    · rw [e]; exact ⟨z0, z0, by decide, by decide⟩
  have q : I64 (ptv M).1.2.1 ∧ I64 (ptv M).1.2.2.1 ∧ I64 (ptv M).2 := by
    rcases hM with e | e
    · have q := pt_bd hl hs ho mi
      rw [← e] at q
      exact ⟨q.1, q.2.1, ⟨by have := q.2.2.1; omega, by have := q.2.2.2.1; omega⟩⟩
    · rw [e]; exact ⟨z0, z0, z0⟩
  intro i lo h hi
  rw [hρ]
  unfold bdL at hi
  rw [lk_cons] at hi; split at hi
  · rename_i e; cases hi; subst e; show 0 ≤ (n : Int) ∧ (n : Int) ≤ _; omega
  rw [lk_cons] at hi; split at hi
  · rename_i e; cases hi; subst e; show 0 ≤ (ns : Int) ∧ (ns : Int) ≤ _; omega
  rw [lk_cons] at hi; split at hi
  · rename_i e; cases hi; subst e; show 0 ≤ (ne : Int) ∧ (ne : Int) ≤ _; omega
  rw [lk_cons] at hi; split at hi
  · rename_i e; cases hi; subst e; exact wide_of ha
  rw [lk_cons] at hi; split at hi
  · rename_i e; cases hi; subst e; exact wide_of hs
  rw [lk_cons] at hi; split at hi
  · rename_i e; cases hi; subst e; exact wide_of ho
  rw [lk_cons] at hi; split at hi
  · rename_i e; cases hi; subst e; exact wide_of p.1
  rw [lk_cons] at hi; split at hi
  · rename_i e; cases hi; subst e; exact wide_of p.2.1
  rw [lk_cons] at hi; split at hi
  · rename_i e; cases hi; subst e
    have h1 := p.2.2.1
    have h2 := p.2.2.2
    show -9223372036854775808 ≤ (ptv P).2 ∧ (ptv P).2 ≤ 9223372036854775807
    omega
  rw [lk_cons] at hi; split at hi
  · rename_i e; cases hi; subst e; exact wide_of q.1
  rw [lk_cons] at hi; split at hi
  · rename_i e; cases hi; subst e; exact wide_of q.2.1
  rw [lk_cons] at hi; split at hi
  · rename_i e; cases hi; subst e; exact wide_of q.2.2
  rw [lk_cons] at hi; split at hi
  · rename_i e; cases hi; subst e; exact wide_of (getD_bd hE.2.2.1 _)
  rw [lk_cons] at hi; split at hi
  · rename_i e; cases hi; subst e; exact wide_of (getD_bd hE.2.2.1 _)
  · cases hi
theorem fb_ok (hS : NRow w SA ns S) : ∀ f lo h, lk [(0, wide)] f = some (lo, h) → ∀ a b c d, lo ≤ ρ.f f a b c d ∧ ρ.f f a b c d ≤ h := by
  intro f lo h hi a b c d
  rw [hρ]
  simp only [lk_cons] at hi
  split at hi
  · cases hi
    show wide.1 ≤ atI S a ∧ atI S a ≤ wide.2
    unfold atI
    split
    · exact ⟨by decide, by decide⟩
    · exact wide_of (getD_bd hS.2.2.1 _)
  · cases hi
theorem one_ok : ∀ j, (ρ.v j).oneCell' = true := by
  rw [hρ]
  intro j
  show (match A with | some a => Value.pointer (some ⟨a.block, a.off + (ptv P).2.toNat * 4, none⟩) | none => .nilFunc).oneCell' = true
  cases A <;> rfl
theorem there_of {l : List Sy} (hl : SRow w A n l) (hP : P = (part pl sec off l).getD none) (ht : thereE.tru ρ = true) :
    ∃ b o k : Nat, A = some ⟨b, o, none⟩ ∧ b < w.heap.size ∧ (ptv P).2 = (k : Int) ∧ w.cell? ⟨b, o + k * 4, none⟩ = some (.string pl) := by
  have ht : (P.isSome && !decide ((ptv P).2 < 0)) = true := by rw [hρ] at ht; exact ht
  simp only [Bool.and_eq_true] at ht
  cases h : part pl sec off l with
  | none => rw [h] at hP; rw [hP] at ht; cases ht.1
  | some Q =>
    rw [h] at hP
    have hP : P = Q := hP
    subst hP
    cases P with
    | none => cases ht.1
    | some p =>
      rcases part_is h with rfl | ⟨k, h1, h2, h3⟩
      · cases ht.2
      · have hk : k < l.length := by
          rcases Nat.lt_or_ge k l.length with h | h
          · exact h
          · rw [List.getElem?_eq_none h] at h2; cases h2
        rw [List.getElem?_eq_getElem hk] at h2
        have h2 := Option.some.inj h2
        obtain ⟨b, o, e, hb, hc⟩ := hl.2.2.2 (by have := hl.1; omega)
        refine ⟨b, o, k, e, hb, h1, ?_⟩
        have := (hc k hk).1
        rw [h2, h3] at this
        exact this
theorem lnk_ok {k s : SE} {z : Int} {b : Bool} {l : List Sy} (hl : SRow w A n l) (hS : NRow w SA ns S) (hE : NRow w EA ne E) (ha : I64 add) (hs : I64 sec) (ho : I64 off) (hs0 : 0 ≤ sec) (hP : P = (part pl sec off l).getD none) (hM : M = (part mi sec off l).getD none ∨ M = none) : (lnkCx k s z b).Ok ρ := by
  refine ⟨bd_ok hρ hl hS hE ha hs ho (.inl hP) hM, fb_ok hρ hS, one_ok hρ, mixed, ?_, ?_, ?_, ?_⟩
  · intro p hp
    replace hp : p ∈ [(.bin .lt (.var 3) (.lit 0), false), (inE, false)] := hp
    simp only [List.mem_cons, List.not_mem_nil, or_false] at hp
    rcases hp with rfl | rfl
    · rw [hρ]; show decide (sec < 0) = false; simp; omega
    · have p := (pt_bd hl hs ho pl).2.2.2.2
      rw [← hP] at p
      rw [hρ]
      show (P.isSome && !decide ((ptv P).2 < (n : Int))) = false
      cases h : P.isSome with
      | false => rfl
      | true => have := p h; simp [this]
  · intro i m e x j h h0 h1
    replace h : (i, m, e, x, j) ∈ [(0, 5, 44, SE.var 12, 40)] := h
    simp only [List.mem_cons, List.not_mem_nil, or_false] at h
    cases h
    have h0 : 0 ≤ (ptv P).2 := by rw [hρ] at h0; exact h0
    have h1 : (ptv P).2 < (n : Int) := by rw [hρ] at h1; exact h1
    obtain ⟨b, o, e, _, _⟩ := hl.2.2.2 (by omega)
    refine ⟨b, o, by rw [hρ]; exact e, ?_⟩
    rw [hρ]
    show (match A with | some a => Value.pointer (some ⟨a.block, a.off + (ptv P).2.toNat * 4, none⟩) | none => .nilFunc) = .pointer (some ⟨b, o + (ptv P).2.toNat * Try.prog.cellsOf 44, none⟩)
    rw [four, e]
  · intro j t i c m h ht
    replace h : (j, t, i, c, m) ∈ [(40, 44, 0, thereE, 41)] := h
    simp only [List.mem_cons, List.not_mem_nil, or_false] at h
    cases h
    obtain ⟨b, o, q, e, hb, hq, hc⟩ := there_of hρ hl hP ht
    have hv : ∀ j, ρ.v j = .pointer (some ⟨b, o + (ptv P).2.toNat * 4, none⟩) := by rw [hρ]; intro j; show (match A with | some a => Value.pointer (some ⟨a.block, a.off + (ptv P).2.toNat * 4, none⟩) | none => .nilFunc) = _; rw [e]
    refine ⟨b, o + (ptv P).2.toNat * 4, hv 40, fun fs f hu hf => ?_⟩
    replace hu : Try.prog.underlying 44 = some (.struct fs) := hu
    rw [Try.underlying44] at hu
    cases hu
    cases hf
    exact hv 41
  · intro j t c y h ht
    replace h : (j, t, c, y) ∈ [(41, 9, thereE, SP.c (.strv 0))] := h
    simp only [List.mem_cons, List.not_mem_nil, or_false] at h
    cases h
    obtain ⟨b, o, q, e, hb, hq, hc⟩ := there_of hρ hl hP ht
    have hv : ρ.v 41 = .pointer (some ⟨b, o + (ptv P).2.toNat * 4, none⟩) := by rw [hρ]; show (match A with | some a => Value.pointer (some ⟨a.block, a.off + (ptv P).2.toNat * 4, none⟩) | none => .nilFunc) = _; rw [e]
    refine ⟨⟨b, o + (ptv P).2.toNat * 4, none⟩, hv, fun W hW => ⟨.string pl, ?_, fun β => ?_⟩⟩
    · have hW : Below w.heap.size w W := by rw [hρ] at hW; exact hW
      have hq' : (ptv P).2.toNat = q := by omega
      rw [hq']
      have hcell := (hW.cell (p := ⟨b, o + q * 4, none⟩) hb).trans hc
      have hagg : (isAgg 9).run Try.prog W = .ok false W := (run_isAggT (P := Try.prog) (t := 9) (b := false) (by kernel_rfl) W).1
      show (loadVar 9 _).run Try.prog W = _
      simp [loadVar, Sem.run_bind, hagg, hcell]
    · rw [hρ]; rfl
theorem placed {cx : Ctx} {β : Lay} {L : Lst} {H : List (Nat × Blk)} {m : Nat} {w' : World} (hW : WR cx.P ρ ρ.B ρ.w0 L β H m w') {b : Nat} {k : Blk} (hk : lk H b = some k) (hc : k.cells = placeL) :
    ∃ ad cap, β b = some (ad, cap) ∧ PlaceAt ad sec off A n ca w' := by
  obtain ⟨ad, cap, cs, cur, h1, h2, h3, h4, h5, h6, h7⟩ := hW.blk b k hk
  rw [hc] at h2
  have e : (ρ.i 5).toNat = n := by rw [hρ]; exact Int.toNat_natCast n
  have h2 : some [Value.int .i64 (ρ.i 3), .int .i64 (ρ.i 4), .slice (ρ.sl 0).1 (ρ.i 5).toNat (ρ.sl 0).2] = some cs := h2
  rw [e] at h2
  have h2 : some [Value.int .i64 sec, .int .i64 off, .slice A n ca] = some cs := by rw [hρ] at h2; exact h2
  cases h2
  exact ⟨ad, cap, h1, cell_pre h4 h5 (i := 0) rfl, cell_pre h4 h5 (i := 1) rfl, cell_pre h4 h5 (i := 2) rfl⟩
theorem parts_s {cx : Ctx} (hc : cx.P = Try.prog) {l : List Sy} (hl : SRow w A n l) (e : SE) (hp : P = (part pl sec off l).getD none) (hm : M = if (part pl sec off l).isSome then (part mi sec off l).getD none else none)
    (hf : e.tru ρ = ((part pl sec off l).isSome && (part mi sec off l).isSome)) : SumOk cx ρ 32 (partsS e) := by
  intro pc H args v hg ok L β vals w' m' hW ha
  unfold partsS at hg
  split at hg
  · rename_i v0 f b
    split at hg
    · rename_i hs
      simp only [Bool.and_eq_true] at hs
      have ef := Nat.eq_of_beq_eq_true hs.2
      split at hg
      · rename_i k hk
        split at hg
        · rename_i hcs
          obtain ⟨ad, cap, hb, hpl⟩ := placed hρ hW hk (lSame_eq (fun _ _ h => SC.same_eq h) hcs)
          rw [SV.same_eq hs.1] at ha
          obtain ⟨v1, l1, h1, hl1, rfl⟩ := denA_cons ha
          obtain ⟨v2, l2, h2, hl2, rfl⟩ := denA_cons hl1
          cases hl2
          have h1 : v1 = .agg #[.int .i64 add, .string pl, .string mi] := by rw [hρ] at h1; exact (Option.some.inj h1).symm
          subst h1
          obtain ⟨p, r, hp1, hr1, rfl⟩ := fn_ok (ρ := ρ) h2
          simp only [ptrs, hb] at hp1 hr1
          cases hp1; cases hr1
          subst ef
          have hS : SRow w' A n l := hl.keep (by have := hW.below; rw [hρ] at this; exact this)
          have hcall := parts_any ad sec off A n ca l add pl mi w' hpl hS
          rw [← hc] at hcall
          cases hg
          refine ⟨.tuple #[.agg (partC P ++ partC M).toArray, .bool ((part pl sec off l).isSome && (part mi sec off l).isSome)], ?_, hcall.mono ?_⟩
          · have h0 : ∀ β, (SV.tup [.agg (ptL 1 2 10 11 12 2 ++ ptL 3 4 20 21 22 3), .c (.bool e)]).den ρ β = some (.tuple #[.agg (partC P ++ partC M).toArray, .bool (e.tru ρ)]) := by rw [hρ]; intro β; rfl
            rw [h0, hf]
          · rintro e' w2 ⟨hb2, he⟩
            refine ⟨?_, hb2⟩
            rw [hp, hm]
            cases h1 : part pl sec off l with
            | none => rw [h1] at he; cases h2 : part mi sec off l <;> (rw [h2] at he; exact he)
            | some a =>
              rw [h1] at he
              cases h2 : part mi sec off l with
              | none => rw [h2] at he; exact he
              | some c => rw [h2] at he; exact he
        · cases hg
      · cases hg
    · cases hg
  · cases hg
end
end Go.Proofs.Ytddfafapahnaaaa.Lnk
