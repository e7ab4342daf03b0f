/- FixupLinked: what its runs are given is so. -/
import Derived.Test.YtddfafapahnaaaaLnkA
import Derived.Test.YtddfafapahnaaaaAdrW
import Derived.IntWalk
namespace Go.Proofs.Ytddfafapahnaaaa.Lnk
open Go Go.RowKit Go.Proofs.Ytddfafapahnaaaa Sym Go.Sort
set_option linter.unusedVariables false

theorem fnd_get {nm : ByteArray} : ∀ (l : List Sy) (i : Nat) {s : Sy} {j : Nat}, fnd nm l i = some (s, j) → ∃ k, j = i + k ∧ l[k]? = some s ∧ s.1 = nm
  | [], i, s, j, h => by cases h
  | a :: r, i, s, j, h => by
    unfold fnd at h
    split at h
    · rename_i e
      cases h
      exact ⟨0, rfl, rfl, e⟩
    · obtain ⟨k, h1, h2, h3⟩ := fnd_get r (i + 1) h
      exact ⟨k + 1, by omega, by simpa using h2, h3⟩
/-- a name that is there is the place, or one of the symbols -/
theorem part_is {nm : ByteArray} {sec off : Int} {l : List Sy} {p : Pt} (h : part nm sec off l = some (some p)) : p = ((noS, sec, off, false), -1) ∨ ∃ k : Nat, p.2 = (k : Int) ∧ l[k]? = some p.1 ∧ p.1.1 = nm := by
  unfold part at h
  split at h
  · cases h
  · unfold look at h
    split at h
    · cases h; exact .inl rfl
    · cases hf : fnd nm l 0 with
      | none => rw [hf] at h; cases h
      | some x =>
        rw [hf] at h
        cases h
        obtain ⟨k, h1, h2, h3⟩ := fnd_get l 0 hf
        exact .inr ⟨k, by show ((x.2 : Nat) : Int) = k; omega, h2, h3⟩
section
variable (w : World) (kd sz add sec off : Int) (n ca : Nat) (A : Option Addr) (pl mi : ByteArray) (P M : Option Pt) (ns cs : Nat) (SA : Option Addr) (S : List Int) (ne ce : Nat) (EA : Option Addr) (E : List Int)
/-- what the letters are -/
def lnkEnv : Env :=
  { i := fun j => match j with
      | 0 => kd | 1 => sz | 2 => add | 3 => sec | 4 => off | 5 => n | 7 => ns | 8 => ne
      | 10 => (ptv P).1.2.1 | 11 => (ptv P).1.2.2.1 | 12 => (ptv P).2
      | 20 => (ptv M).1.2.1 | 21 => (ptv M).1.2.2.1 | 22 => (ptv M).2
      | 30 => E.getD ((ptv P).2.toNat % E.length) 0 | 31 => E.getD ((ptv M).2.toNat % E.length) 0
      | _ => 0
    b := fun j => match j with
      | 1 => P.isSome | 2 => (ptv P).1.2.2.2 | 3 => M.isSome | 4 => (ptv M).1.2.2.2
      | _ => false
    v := fun _ => match A with
      | some a => .pointer (some ⟨a.block, a.off + (ptv P).2.toNat * 4, none⟩)
      | none => .nilFunc
    f := fun _ a _ _ _ => atI S a
    p := fun _ _ _ _ _ => false
    B := w.heap.size
    w0 := w
    sl := fun j => match j with | 0 => (A, ca) | 2 => (SA, cs) | _ => (EA, ce)
    s := fun j => match j with | 0 => pl | 1 => mi | 2 => (ptv P).1.1 | _ => (ptv M).1.1 }
end
theorem repE_ok {ρ : Env} {pc : PC} (ok : PcOk ρ pc) (e : SE) : (repE pc e).int ρ = e.int ρ := by
  unfold repE
  split
  · rename_i h
    have := decT_ok ok h
    rw [mkEq_ok ok] at this
    exact (eq_of_beq this).symm
  · split
    · rename_i h
      have := decT_ok ok h
      rw [mkEq_ok ok] at this
      exact (eq_of_beq this).symm
    · rfl
theorem secE_ok {ρ : Env} {pc : PC} {S : List Int} (hf : ∀ a b c d, ρ.f 0 a b c d = atI S a) (ok : PcOk ρ pc) (e : SE) : (secE pc e).int ρ = atI S (e.int ρ) := by
  unfold secE
  split
  · rename_i h
    have := decT_ok ok h
    rw [mkLt_ok ok] at this
    have : e.int ρ < 0 := of_decide_eq_true this
    show (0 : Int) = _
    unfold atI
    rw [if_pos this]
  · show ρ.f 0 ((repE pc e).int ρ) _ _ _ = _
    rw [hf, repE_ok ok]
theorem adrE_ok {ρ : Env} {pc : PC} {S : List Int} (hf : ∀ a b c d, ρ.f 0 a b c d = atI S a) (ok : PcOk ρ pc) (t s v x : SE) :
    (adrE pc t s v x).int ρ = if t.tru ρ = true then (if s.int ρ = -1 then x.int ρ else wrap64 (atI S (s.int ρ) + v.int ρ)) else 0 := by
  unfold adrE
  rw [chooseS_ok ok, chooseS_ok ok, mkEq_ok ok, mkWrap_ok ok, mkAdd_ok ok, secE_ok hf ok, IntWalk.i64_left]
  by_cases e : s.int ρ = -1
  · have e1 : (s.int ρ == (SE.lit (-1)).int ρ) = true := by rw [e]; rfl
    rw [if_pos e1, if_pos e]
    rfl
  · have e1 : ¬ (s.int ρ == (SE.lit (-1)).int ρ) = true := by intro h; exact e (eq_of_beq h)
    rw [if_neg e1, if_neg e]
    rfl
theorem adrI_of {nm : ByteArray} {sec off : Int} {l : List Sy} {S E : List Int} {P : Option Pt} (hp : part nm sec off l = some P) (hs : 0 ≤ sec) :
    adrI nm sec off l S E = (if P.isSome = true then (if (ptv P).1.2.1 = -1 then E.getD ((ptv P).2.toNat % E.length) 0 else wrap64 (atI S (ptv P).1.2.1 + (ptv P).1.2.2.1)) else 0, true) := by
  unfold adrI
  rw [hp]
  cases P with
  | none => rfl
  | some p =>
    rcases part_is hp with rfl | ⟨k, h1, h2, h3⟩
    · show (if (-1 : Int) < 0 then wrap64 (atI S sec + off) else _, true) = (if true = true then (if sec = -1 then _ else wrap64 (atI S sec + off)) else 0, true)
      rw [if_pos (by omega), if_pos rfl, if_neg (by omega)]
    · show (if p.2 < 0 then _ else if p.1.2.1 = -1 then _ else _, true) = (if true = true then _ else 0, true)
      rw [if_neg (by omega), if_pos rfl]
      rfl
theorem dot_of {z : ByteArray} (h : z.data.toList = [46]) : z = dotS := by
  have : z.data = dotS.data := Array.ext' (by rw [h]; rfl)
  cases z; cases this; rfl
section
variable {w : World} {kd sz add sec off : Int} {n ca : Nat} {A : Option Addr} {pl mi : ByteArray} {P M : Option Pt} {ns cs : Nat} {SA : Option Addr} {S : List Int} {ne ce : Nat} {EA : Option Addr} {E : List Int}
variable {ρ : Env} (hρ : ρ = lnkEnv w kd sz add sec off n ca A pl mi P M ns cs SA S ne ce EA E)
include hρ
theorem adr_s {cx : Ctx} (hc : cx.P = Try.prog) {l : List Sy} (hl : SRow w A n l) (hS : NRow w SA ns S) (hE : NRow w EA ne E) (hs : I64 sec) (hs0 : 0 ≤ sec) (hp : part pl sec off l = some P) (hm : part mi sec off l = some M)
    {k s : SE} (hk : k.int ρ = kd) (hz : s.int ρ = sz) : SumOk cx ρ 12 (adrS k s) := by
  have hf : ∀ a b c d, ρ.f 0 a b c d = atI S a := by rw [hρ]; intro a b c d; rfl
  intro pc H args u hg ok L β vals w' m hW ha
  unfold adrS at hg
  split at hg
  · rename_i nm r
    split at hg
    · rename_i hr
      obtain ⟨v0, l0, h0, hl0, rfl⟩ := denA_cons ha
      rw [lSame_eq (fun _ _ h => SV.same_eq h) hr] at hl0
      have hl0 : some [Value.agg #[.int .i64 (k.int ρ), .int .i64 (s.int ρ), .int .i64 (ρ.i 2), .string (ρ.s 0), .string (ρ.s 1), .int .i64 (ρ.i 3), .int .i64 (ρ.i 4), .slice (ρ.sl 0).1 (ρ.i 5).toNat (ρ.sl 0).2], .slice (ρ.sl 2).1 (ρ.i 7).toNat (ρ.sl 2).2, .slice (ρ.sl 3).1 (ρ.i 8).toNat (ρ.sl 3).2] = some l0 := hl0
      rw [hk, hz] at hl0
      have e5 : (ρ.i 5).toNat = n := by rw [hρ]; exact Int.toNat_natCast n
      have e7 : (ρ.i 7).toNat = ns := by rw [hρ]; exact Int.toNat_natCast ns
      have e8 : (ρ.i 8).toNat = ne := by rw [hρ]; exact Int.toNat_natCast ne
      rw [e5, e7, e8] at hl0
      have hb : Below w.heap.size w w' := by have := hW.below; rw [hρ] at this; exact this
      have call := fun nm : ByteArray => address_any nm pl mi kd sz add sec off A n ca l SA ns cs S EA ne ce E w' (hl.keep hb) (hS.keep hb) (hE.keep hb) hs
      have hl0 : l0 = [Value.agg #[.int .i64 kd, .int .i64 sz, .int .i64 add, .string pl, .string mi, .int .i64 sec, .int .i64 off, .slice A n ca], .slice SA ns cs, .slice EA ne ce] := by rw [hρ] at hl0; exact (Option.some.inj hl0).symm
      rw [hl0]
      split at hg
      · cases hg
        have h0 : v0 = .string pl := by rw [hρ] at h0; exact (Option.some.inj h0).symm
        rw [h0, hc]
        refine ⟨_, rfl, ?_⟩
        rw [adrE_ok hf ok]
        have := call pl
        rw [adrI_of hp hs0] at this
        rw [hρ]
        exact this
      · cases hg
        have h0 : v0 = .string mi := by rw [hρ] at h0; exact (Option.some.inj h0).symm
        rw [h0, hc]
        refine ⟨_, rfl, ?_⟩
        rw [adrE_ok hf ok]
        have := call mi
        rw [adrI_of hm hs0] at this
        rw [hρ]
        exact this
      · rename_i z
        split at hg
        · rename_i hd
          cases hg
          have h0 : v0 = .string z := (Option.some.inj h0).symm
          have hz := dot_of (of_decide_eq_true hd)
          rw [h0, hz, hc]
          refine ⟨_, rfl, ?_⟩
          rw [mkWrap_ok ok, mkAdd_ok ok, secE_ok hf ok, IntWalk.i64_left]
          have := call dotS
          have e : adrI dotS sec off l S E = (wrap64 (atI S sec + off), true) := by unfold adrI part look; rw [if_neg (by decide), if_pos rfl]; rfl
          rw [e] at this
          rw [hρ]
          exact this
        · cases hg
      · cases hg
    · cases hg
  · cases hg
end
end Go.Proofs.Ytddfafapahnaaaa.Lnk
