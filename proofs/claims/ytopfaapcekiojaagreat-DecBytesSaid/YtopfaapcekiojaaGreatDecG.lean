/- Numbers with a sign, seen through their bits. -/
import Derived.Test.YtopfaapcekiojaaGreatDecA
import Derived.Test.YtopfaapcekiojaaGreatEncR9
namespace Go.Proofs.YtopfaapcekiojaaGreat.Sym
open Go Go.RowKit Go.Proofs.YtopfaapcekiojaaGreat
noncomputable section
set_option linter.unusedVariables false
/-- is a number of some bits below nought -/
def sgnQ (pc : PC) (k : Nat) (x : SE) : Option Bool := dec pc (mkEq pc (.un (.bits k 1) x) (.lit 0))
def shrBy (pc : PC) (l : Nat) (x : SE) : SE := match l with
  | 0 => x
  | l => mkShr pc l x
def simpS (pc : PC) : SE → SE
  | .un o a => match o with
    | .bits l n => match Nat.ble 1 n && sgnd (bnd pc a) (l + n - 1) with
      | true => match sgnQ pc (l + n - 1) a with
        | some true => shrBy pc l a
        | _ => .un o a
      | false => .un o a
    | o => .un o a
  | .bin o a b => match o with
    | .sub => match a, b with
      | .un (.bits l n) x, .lit m => match Nat.ble 1 n && (sgnd (bnd pc x) (l + n - 1) && intSame m (p2 n)) with
        | true => match sgnQ pc (l + n - 1) x with
          | some false => shrBy pc l x
          | _ => .bin o a b
        | false => .bin o a b
      | a, b => .bin o a b
    | .cat m => mkCat pc m (simpS pc a) b
    | o => .bin o a b
  | e => e
def simpC (pc : PC) (x : SC) : SC := match x with
  | .int k e => .int k (simpS pc (e.sub pc [] []))
  | .bool e => .bool (e.sub pc [] [])
  | x => x
def simpL (pc : PC) : List SC → List SC
  | [] => []
  | x :: r => simpC pc x :: simpL pc r
section
variable {ρ : Env} {pc : PC} (ok : PcOk ρ pc)
include ok
theorem shrBy_ok (l : Nat) (x : SE) : (shrBy pc l x).int ρ = x.int ρ / 2 ^ l := by
  unfold shrBy
  split
  · rw [show (2 : Int) ^ 0 = 1 from rfl, Int.ediv_one]
  · rw [mkShr_ok ok]
theorem sgnQ_ok {k : Nat} {x : SE} {b : Bool} (h : sgnQ pc k x = some b) : (x.int ρ / 2 ^ k % 2 == 0) = b := by
  have := dec_ok ok h
  rw [mkEq_ok ok] at this
  exact this
omit ok in
theorem neg_div {x p : Int} (hp : 0 < p) (h1 : -p ≤ x) (h2 : x < 0) : x / p = -1 := by
  have a : -1 ≤ x / p := Int.le_ediv_of_mul_le hp (by omega)
  have b : x / p < 0 := Int.ediv_neg_of_neg_of_pos h2 hp
  omega
omit ok in
theorem sgn_pos {x : Int} {k : Nat} (h : - 2 ^ k ≤ x ∧ x < 2 ^ k) (hs : (x / 2 ^ k % 2 == 0) = true) : 0 ≤ x := by
  by_cases hx : 0 ≤ x
  · exact hx
  · rw [neg_div (pow_pos' k) h.1 (by omega)] at hs
    cases hs
omit ok in
theorem sgn_neg {x : Int} {k : Nat} (h : - 2 ^ k ≤ x ∧ x < 2 ^ k) (hs : (x / 2 ^ k % 2 == 0) = false) : x < 0 := by
  by_cases hx : 0 ≤ x
  · rw [Int.ediv_eq_zero_of_lt hx h.2] at hs
    cases hs
  · omega
omit ok in
theorem pow_split {l n : Nat} (hn : 1 ≤ n) : (2 : Int) ^ (l + n - 1) = 2 ^ (n - 1) * 2 ^ l := by
  rw [← Int.pow_add]
  congr 1
  omega
omit ok in
theorem pow_up {n : Nat} (hn : 1 ≤ n) : (2 : Int) ^ n = 2 * 2 ^ (n - 1) := by
  obtain ⟨m, rfl⟩ : ∃ m, n = m + 1 := ⟨n - 1, by omega⟩
  rw [Int.pow_succ, Nat.add_sub_cancel, Int.mul_comm]
omit ok in
theorem bits_pos {x : Int} {l n : Nat} (hn : 1 ≤ n) (h : - 2 ^ (l + n - 1) ≤ x ∧ x < 2 ^ (l + n - 1)) (hs : (x / 2 ^ (l + n - 1) % 2 == 0) = true) : x / 2 ^ l = x / 2 ^ l % 2 ^ n := by
  have hx := sgn_pos h hs
  have hl := pow_pos' l
  have a : 0 ≤ x / 2 ^ l := Int.ediv_nonneg hx (Int.le_of_lt hl)
  have b : x / 2 ^ l < 2 ^ (n - 1) := Int.ediv_lt_of_lt_mul hl (by rw [← pow_split hn]; exact h.2)
  have c := pow_up hn
  have d := pow_pos' (n - 1)
  exact (Int.emod_eq_of_lt a (by omega)).symm
omit ok in
theorem bits_neg {x : Int} {l n : Nat} (hn : 1 ≤ n) (h : - 2 ^ (l + n - 1) ≤ x ∧ x < 2 ^ (l + n - 1)) (hs : (x / 2 ^ (l + n - 1) % 2 == 0) = false) : x / 2 ^ l = x / 2 ^ l % 2 ^ n - 2 ^ n := by
  have hx := sgn_neg h hs
  have hl := pow_pos' l
  have a : x / 2 ^ l < 0 := Int.ediv_neg_of_neg_of_pos hx hl
  have b : - 2 ^ (n - 1) ≤ x / 2 ^ l := Int.le_ediv_of_mul_le hl (by rw [Int.neg_mul, ← pow_split hn]; exact h.1)
  have c := pow_up hn
  have d := pow_pos' (n - 1)
  have e : (x / 2 ^ l + 2 ^ n) % 2 ^ n = x / 2 ^ l + 2 ^ n := Int.emod_eq_of_lt (by omega) (by omega)
  rw [Int.add_emod_right] at e
  omega
theorem simpS_ok : ∀ e : SE, (simpS pc e).int ρ = e.int ρ := by
  intro e
  induction e with
  | un o a _ =>
    unfold simpS
    cases o with
    | bits l n =>
      simp only []
      split
      · rename_i hc
        simp only [Bool.and_eq_true] at hc
        have hn := Nat.le_of_ble_eq_true hc.1
        have hs := sgnd_ok ok hc.2
        split
        · rename_i hq
          rw [shrBy_ok ok, bits_int]
          exact bits_pos hn hs (sgnQ_ok ok hq)
        · rfl
      · rfl
    | _ => rfl
  | bin o a b iha _ =>
    unfold simpS
    cases o with
    | sub =>
      simp only []
      split
      · rename_i l n x m _
        split
        · rename_i hc
          simp only [Bool.and_eq_true] at hc
          have hn := Nat.le_of_ble_eq_true hc.1
          have hs := sgnd_ok ok hc.2.1
          have hm := intSame_eq hc.2.2
          split
          · rename_i hq
            rw [shrBy_ok ok]
            show _ = x.int ρ / 2 ^ l % 2 ^ n - m
            rw [hm, p2_eq]
            exact bits_neg hn hs (sgnQ_ok ok hq)
          · rfl
        · rfl
      · rfl
    | cat m =>
      show (mkCat pc m (simpS pc a) b).int ρ = _
      rw [mkCat_ok ok, iha]
      rfl
    | _ => rfl
  | _ => rfl
theorem simpC_ok {x : SC} (h : x.wsC = true) (β : Lay) : (simpC pc x).den ρ β = x.den ρ β := by
  unfold simpC
  split
  · rename_i k e
    show some (Value.int k _) = some (Value.int k _)
    have : (e.sub pc [] []).int ρ = e.int ρ := (sub_ok' ok [] [] e).1 h
    rw [simpS_ok ok, this]
  · rename_i e
    show some (Value.bool _) = some (Value.bool _)
    have : (e.sub pc [] []).tru ρ = e.tru ρ := (sub_ok' ok [] [] e).2 h
    rw [this]
  · rfl
theorem simpL_ok : ∀ {l : List SC}, wsL l = true → ∀ β, denL ρ β (simpL pc l) = denL ρ β l
  | [], _, _ => rfl
  | x :: r, h, β => by
    simp only [wsL, Bool.and_eq_true] at h
    show denL ρ β (simpC pc x :: simpL pc r) = _
    unfold denL
    rw [simpC_ok ok h.1, simpL_ok h.2]
end
/-! ### what the reference guesses of an instruction's word -/
def wantG (l : List SC) (pc : PC) (v : SV) : Bool := match v with
  | .p (.agg m) => wsL m && eqL pc (simpL pc m) l
  | _ => false
def leafG (bd : List (Nat × Int × Int)) (l : List SC) (k : Int) (ax : List (SE × Bool)) (pc : PC) (w : SE) : Bool := w.ws.1 && chkB (decCx bd ax) 31 [.p (.c (.int .u32 (w.sub pc [] []))), .p (.c (.int .i64 (.lit k)))] (wantG l)
def gGo (bd : List (Nat × Int × Int)) (l : List SC) (k : Int) : Nat → List (SE × Bool) → SE → Bool
  | 0, _, _ => false
  | n + 1, ax, w => okOr (assumes ax (PC.start (decCx bd ax))) fun pc => match w with
    | .ite c x y => match decT pc c with
      | some true => gGo bd l k n ax x
      | some false => gGo bd l k n ax y
      | none => match gGo bd l k n (ax ++ [(c, true)]) x with
        | true => gGo bd l k n (ax ++ [(c, false)]) y
        | false => false
    | w => leafG bd l k ax pc w
def GuessIs (y : Ins) (k v : Int) : Prop := ∀ W, Calls Tryz.prog 31 #[.int .u32 v, .int .i64 k] W (Ret y.val W)
theorem gGo_ok {y : Ins} {e : Nat → Int} {t : Nat → Bool} {w0 : World} {bd : List (Nat × Int × Int)} {k : Int} (hb : BdOk bd (insI y e)) {l : List SC} (hl : ∀ β, (SP.agg l).den (encEnv y e t w0) β = some y.val) : ∀ {n : Nat} {ax : List (SE × Bool)} {w : SE}, (∀ p ∈ ax, p.1.tru (encEnv y e t w0) = p.2) → gGo bd l k n ax w = true → GuessIs y k (w.int (encEnv y e t w0))
  | 0, _, _, _, h => by cases h
  | n + 1, ax, w, hax, h => by
    have cok : (decCx bd ax).Ok (encEnv y e t w0) := dec_cxok hb hax
    have ok := cok.start
    have app : ∀ {c : SE} {b : Bool}, c.tru (encEnv y e t w0) = b → ∀ p ∈ ax ++ [(c, b)], p.1.tru (encEnv y e t w0) = p.2 := by
      intro c b hc p hp
      rcases List.mem_append.1 hp with hp | hp
      · exact hax p hp
      · simp only [List.mem_cons, List.not_mem_nil, or_false] at hp
        subst hp
        exact hc
    unfold gGo at h
    replace h := okOr_ok ok h
    split at h
    · rename_i c a b
      have hi : (SE.ite c a b).int (encEnv y e t w0) = if c.tru (encEnv y e t w0) then a.int (encEnv y e t w0) else b.int (encEnv y e t w0) := rfl
      rw [hi]
      split at h
      · rename_i hd; rw [if_pos (decT_ok ok hd)]; exact gGo_ok hb hl hax h
      · rename_i hd; rw [if_neg (by rw [decT_ok ok hd]; simp)]; exact gGo_ok hb hl hax h
      · split at h
        · rename_i hx
          cases hc : c.tru (encEnv y e t w0) with
          | true => rw [if_pos rfl]; exact gGo_ok hb hl (app hc) hx
          | false => rw [if_neg (by simp)]; exact gGo_ok hb hl (app hc) h
        · cases h
    · unfold leafG at h
      simp only [Bool.and_eq_true] at h
      have hs : (w.sub (assumes ax (PC.start (decCx bd ax))) [] []).int (encEnv y e t w0) = w.int (encEnv y e t w0) := (sub_ok' ok [] [] w).1 h.1
      obtain ⟨v, pc, ok', hq, hc⟩ := chkB_calls h.2 (ρ := encEnv y e t w0) cok dec_sums insM (vals := [.int .u32 ((w.sub (assumes ax (PC.start (decCx bd ax))) [] []).int (encEnv y e t w0)), .int .i64 k]) rfl
      rw [hs] at hc
      refine hc _ fun β => ?_
      unfold wantG at hq
      split at hq
      · rename_i m
        simp only [Bool.and_eq_true] at hq
        show (denL _ β m).map _ = _
        rw [← simpL_ok ok' hq.1 β, eqL_ok ok' hq.2]
        exact hl β
      · cases hq
def gB (bd : List (Nat × Int × Int)) (l : List SC) (k : Int) : Bool := match encAt (PC.start (decCx bd [])) l with
  | some (.ite c x b, z) => match okOr (assume (PC.start (decCx bd [])) c true) (fun p => neBy 100 p z) with
    | true => gGo bd l k 20 [(c, false)] b
    | false => false
  | _ => false
/-- the answer of the reference, at an instruction's cells -/
def refAt (pc : PC) (l : List SC) : Option (SE × SE) := match tplsSum tp_ref_Encode pc [] [.p (.agg l)] with
  | some (.tup [.c (.int .u32 w), .c (.int .i64 z)]) => some (w, z)
  | _ => none
theorem refAt_ok {pc : PC} {l : List SC} {a z : SE} (h : refAt pc l = some (a, z)) {ρ : Env} (hg : GoodM ρ) (one : ∀ i, (ρ.v i).oneCell' = true) (ok : PcOk ρ pc) {v : Value} (hv : ∀ β, (SP.agg l).den ρ β = some v) (W : World) :
    Calls Tryz.prog 12 #[v] W (Ret (.tuple #[.int .u32 (a.int ρ), .int .i64 (z.int ρ)]) W) := by
  unfold refAt at h
  split at h
  · rename_i a' z' ht
    cases h
    have ok' : PcOk (ρ.at W) pc := pcOk_at ok
    have hA : denA (ρ.at W) noLay [SV.p (.agg l)] = some [v] := by
      rw [denA_at]
      have : (SV.p (.agg l)).den ρ noLay = some v := hv noLay
      unfold denA
      rw [this]
      rfl
    have hgW : GoodL (ρ.at W) := hg.1
    obtain ⟨x, hx, hc⟩ := ok_ref_Encode (decCx [] []) (ρ.at W) hgW one rfl (12, tplsSum tp_ref_Encode) List.mem_cons_self pc [] [.p (.agg l)] _ ht ok' ⟨[], []⟩ noLay [v] W 0 (WR.start _ (ρ.at W) W 0) hA
    have e : some (Value.tuple #[.int .u32 (a.int (ρ.at W)), .int .i64 (z.int (ρ.at W))]) = some x := hx
    rw [int_at, int_at] at e
    cases e
    exact hc
  · cases h
def rB (bd : List (Nat × Int × Int)) (l : List SC) : Bool := match encAt (PC.start (decCx bd [])) l, refAt (PC.start (decCx bd [])) l with
  | some (a, z), some (b, u) => eqTwo 100 (PC.start (decCx bd [])) a b && eqTwo 100 (PC.start (decCx bd [])) z u
  | _, _ => false
/-- Encode of the reference gives the same -/
def RefSame (y : Ins) : Prop := ∃ v z, ∀ W, Calls Tryz.prog 23 #[y.val] W (Ret (.tuple #[.int .u32 v, .int .i64 z]) W) ∧ Calls Tryz.prog 12 #[y.val] W (Ret (.tuple #[.int .u32 v, .int .i64 z]) W)
theorem rB_ok {y : Ins} {e : Nat → Int} {t : Nat → Bool} {w0 : World} {bd : List (Nat × Int × Int)} (hb : BdOk bd (insI y e)) {l : List SC} (hl : ∀ β, (SP.agg l).den (encEnv y e t w0) β = some y.val) (h : rB bd l = true) : RefSame y := by
  have cok : (decCx bd []).Ok (encEnv y e t w0) := dec_cxok hb (by intro p hp; cases hp)
  have ok : PcOk (encEnv y e t w0) (PC.start (decCx bd [])) := cok.start
  unfold rB at h
  split at h
  · rename_i a z b u h1 h2
    simp only [Bool.and_eq_true] at h
    have e1 := eqTwo_ok ok h.1
    have e2 := eqTwo_ok ok h.2
    refine ⟨a.int (encEnv y e t w0), z.int (encEnv y e t w0), fun W => ⟨encAt_ok h1 (encGood y e t w0) (fun _ => rfl) ok hl W, ?_⟩⟩
    rw [e1, e2]
    exact refAt_ok h2 (encGood y e t w0) (fun _ => rfl) ok hl W
  · cases h
theorem gB_ok {y : Ins} {e : Nat → Int} {t : Nat → Bool} {w0 : World} {bd : List (Nat × Int × Int)} {k : Int} (hb : BdOk bd (insI y e)) {l : List SC} (hl : ∀ β, (SP.agg l).den (encEnv y e t w0) β = some y.val) (h : gB bd l k = true) : ∃ v z, (∀ W, Calls Tryz.prog 23 #[y.val] W (Ret (.tuple #[.int .u32 v, .int .i64 z]) W)) ∧ (z = 0 → GuessIs y k v) := by
  have cok : (decCx bd []).Ok (encEnv y e t w0) := dec_cxok hb (by intro p hp; cases hp)
  have ok : PcOk (encEnv y e t w0) (PC.start (decCx bd [])) := cok.start
  unfold gB at h
  split at h
  · rename_i c x b z he
    split at h
    · rename_i hn
      refine ⟨(SE.ite c x b).int (encEnv y e t w0), z.int (encEnv y e t w0), encAt_ok he (encGood y e t w0) (fun _ => rfl) ok hl, fun z0 => ?_⟩
      have hc : c.tru (encEnv y e t w0) = false := by
        cases hc : c.tru (encEnv y e t w0) with
        | false => rfl
        | true => exact absurd z0 (neBy_ok (assume_ok ok hc) (okOr_ok (assume_ok ok hc) hn))
      have hi : (SE.ite c x b).int (encEnv y e t w0) = b.int (encEnv y e t w0) := by show (if c.tru _ then _ else _) = _; rw [hc]; rfl
      rw [hi]
      exact gGo_ok hb hl (ax := [(c, false)]) (by intro p hp; simp only [List.mem_cons, List.not_mem_nil, or_false] at hp; subst hp; exact hc) h
    · cases h
  · cases h
def gK (k : Nat) : Bool := gB (bdK k k 7) (cellsI (.lit k)) k
def rK (k : Nat) : Bool := rB (bdK k k 7) (cellsI (.lit k))
def rlo : Bool := rB (bdK (-9223372036854775808) (-1) 7) (cellsI (.var 7))
def rhi : Bool := rB (bdK 33 9223372036854775807 7) (cellsI (.var 7))
end
end Go.Proofs.YtopfaapcekiojaaGreat.Sym
