/- What the executor's terms say is so: ranges, sums, comparisons, decisions. -/
import Derived.Test.YtddfafapahnaaaaSymB
namespace Go.Proofs.Ytddfafapahnaaaa.Sym
open Go Go.RowKit Go.Proofs.Ytddfafapahnaaaa

/-- arguments' values -/
def denA (ρ : Env) (β : Lay) : List SV → Option (List Value)
  | [] => some []
  | x :: r => match x.den ρ β, denA ρ β r with
    | some v, some l => some (v :: l)
    | _, _ => none
/-- what is assumed of the letters and of the functions that are taken by their contracts -/
structure Ctx.Ok (cx : Ctx) (ρ : Env) : Prop where
  bd : ∀ i l h, lk cx.bd i = some (l, h) → l ≤ ρ.i i ∧ ρ.i i ≤ h
  fb : ∀ f l h, lk cx.fb f = some (l, h) → ∀ a b c d, l ≤ ρ.f f a b c d ∧ ρ.f f a b c d ≤ h
  one : ∀ i, (ρ.v i).oneCell' = true
  mixed : cx.P.follows .mixedOrders = true

theorem intLe_le {a b : Int} (h : intLe a b = true) : a ≤ b := by
  unfold intLe at h
  split at h
  · rename_i n hn; have : b - a = (n : Int) := hn; omega
  · cases h
theorem intLe_lt {a b : Int} (h : intLe a b = false) : b < a := by
  unfold intLe at h
  split at h
  · cases h
  · rename_i n hn
    have h1 : b - a = Int.negSucc n := hn
    have h2 := Int.negSucc_lt_zero n
    omega
theorem wrap_id {k : IntKind} {n : Int} (h1 : k.min ≤ n) (h2 : n ≤ k.max) : k.wrap n = n := by
  cases k <;> simp [IntKind.wrap, IntKind.min, IntKind.max, IntKind.signed, IntKind.bits] at * <;> omega
theorem wrap_in (k : IntKind) (n : Int) : k.min ≤ k.wrap n ∧ k.wrap n ≤ k.max := by
  cases k <;> simp [IntKind.wrap, IntKind.min, IntKind.max, IntKind.signed, IntKind.bits] <;> omega
theorem bandV_le {k : IntKind} {x m : Int} (h0 : 0 ≤ m) (hm : m ≤ k.max) : 0 ≤ bandV k x m ∧ bandV k x m ≤ m := by
  have hb : (BitVec.ofInt k.bits x &&& BitVec.ofInt k.bits m).toNat ≤ m.toNat := by
    rw [BitVec.toNat_and]
    refine Nat.le_trans Nat.and_le_right ?_
    rw [BitVec.toNat_ofInt]
    have : m % (2 ^ k.bits : Nat) = m := Int.emod_eq_of_lt h0 (by cases k <;> simp [IntKind.max, IntKind.signed, IntKind.bits] at * <;> omega)
    rw [this]
    exact Nat.le_refl _
  unfold bandV
  have hm' : ((BitVec.ofInt k.bits x &&& BitVec.ofInt k.bits m).toNat : Int) ≤ m := by omega
  rw [wrap_id (k := k) (n := ((BitVec.ofInt k.bits x &&& BitVec.ofInt k.bits m).toNat : Int)) (by have : k.min ≤ 0 := by cases k <;> simp [IntKind.min, IntKind.signed, IntKind.bits]
                                                                                                  omega) (by omega)]
  omega
theorem fdiv_mono {a b c : Int} (hc : 0 < c) (h : a ≤ b) : a.fdiv c ≤ b.fdiv c := by
  rw [Int.fdiv_eq_ediv_of_nonneg _ (by omega), Int.fdiv_eq_ediv_of_nonneg _ (by omega)]; exact Int.ediv_le_ediv hc h
theorem pow_pos' (n : Nat) : (0 : Int) < 2 ^ n := Int.pow_pos (by decide)

theorem rng_ok {cx : Ctx} {ρ : Env} (ok : cx.Ok ρ) : ∀ {e : SE} {l h : Int}, rng cx e = some (l, h) → l ≤ e.int ρ ∧ e.int ρ ≤ h := by
  intro e
  induction e with
  | lit n => intro l h e; simp [rng] at e; obtain ⟨rfl, rfl⟩ := e; exact ⟨Int.le_refl _, Int.le_refl _⟩
  | var i => intro l h e; exact ok.bd i l h e
  | app f a b c d => intro l h e; exact ok.fb f l h e _ _ _ _
  | un o a ih =>
    intro l h e
    unfold rng at e
    cases o with
    | wrap k =>
      simp only [] at e
      show l ≤ k.wrap (a.int ρ) ∧ k.wrap (a.int ρ) ≤ h
      split at e
      · rename_i l' h' hr
        obtain ⟨i1, i2⟩ := ih hr
        split at e
        · rename_i hb
          simp only [Bool.and_eq_true] at hb
          have b1 := intLe_le hb.1
          have b2 := intLe_le hb.2
          cases e
          rw [wrap_id (by omega) (by omega)]
          exact ⟨i1, i2⟩
        · cases e; exact wrap_in k _
      · cases e; exact wrap_in k _
    | b2i =>
      cases e
      show 0 ≤ (if a.tru ρ then (1 : Int) else 0) ∧ (if a.tru ρ then (1 : Int) else 0) ≤ 1
      split <;> simp
    | shr n =>
      simp only [] at e
      split at e
      · rename_i l' h' hr
        obtain ⟨i1, i2⟩ := ih hr
        cases e
        exact ⟨fdiv_mono (pow_pos' n) i1, fdiv_mono (pow_pos' n) i2⟩
      · cases e
    | not => cases e
  | bin o a b iha ihb =>
    intro l h e
    unfold rng at e
    cases o with
    | add =>
      simp only [] at e
      split at e
      · rename_i h1 h2
        have := iha h1; have := ihb h2
        cases e
        show _ ≤ a.int ρ + b.int ρ ∧ a.int ρ + b.int ρ ≤ _
        omega
      · cases e
    | sub =>
      simp only [] at e
      split at e
      · rename_i h1 h2
        have := iha h1; have := ihb h2
        cases e
        show _ ≤ a.int ρ - b.int ρ ∧ a.int ρ - b.int ρ ≤ _
        omega
      · cases e
    | mul =>
      simp only [] at e
      split at e
      · rename_i l' h' m h1
        have i := iha h1
        split at e
        · rename_i hm
          have hm := intLe_le hm
          cases e
          exact ⟨Int.mul_le_mul_of_nonneg_right i.1 hm, Int.mul_le_mul_of_nonneg_right i.2 hm⟩
        · cases e
      · cases e
    | band k =>
      simp only [] at e
      split at e
      · rename_i m
        split at e
        · rename_i hb
          simp only [Bool.and_eq_true] at hb
          cases e
          exact bandV_le (intLe_le hb.1) (intLe_le hb.2)
        · cases e; exact wrap_in k _
      · cases e; exact wrap_in k _
    | bor k => cases e; exact wrap_in k _
    | bxor k => cases e; exact wrap_in k _
    | bclr k => cases e; exact wrap_in k _
    | _ => cases e
  | ite c a b ihc iha ihb =>
    intro l h e
    unfold rng at e
    split at e
    · rename_i h1 h2
      have i1 := iha h1
      have i2 := ihb h2
      cases e
      show _ ≤ (if c.tru ρ then a.int ρ else b.int ρ) ∧ (if c.tru ρ then a.int ρ else b.int ρ) ≤ _
      split <;> omega
    · cases e
  | _ => intro l h e; cases e

section
variable {cx : Ctx} {ρ : Env}
theorem mkWrap_ok (ok : cx.Ok ρ) (k : IntKind) (a : SE) : (mkWrap cx k a).int ρ = k.wrap (a.int ρ) := by
  unfold mkWrap
  split
  · rfl
  · split
    · rename_i l h hr
      have i := rng_ok ok hr
      split
      · rename_i hb
        simp only [Bool.and_eq_true] at hb
        have b1 := intLe_le hb.1
        have b2 := intLe_le hb.2
        exact (wrap_id (by omega) (by omega)).symm
      · rfl
    · rfl
theorem mkUn_int (o : UO) (a : SE) : (mkUn o a).int ρ = o.int (a.int ρ) (a.tru ρ) := by
  unfold mkUn
  split <;> rfl
theorem mkUn_tru (o : UO) (a : SE) : (mkUn o a).tru ρ = o.tru (a.tru ρ) := by
  unfold mkUn
  split <;> rfl
theorem mkNot_ok (a : SE) : (mkUn .not a).tru ρ = !a.tru ρ := mkUn_tru _ _
theorem mkInt_ok (o : BO) (a b : SE) : (mkInt o a b).int ρ = o.int (a.int ρ) (b.int ρ) := by
  unfold mkInt
  split <;> rfl
theorem tru_tt : SE.tt.tru ρ = true := rfl
theorem tru_ff : SE.ff.tru ρ = false := rfl
theorem mkAnd_ok (a b : SE) : (mkAnd a b).tru ρ = (a.tru ρ && b.tru ρ) := by
  unfold mkAnd
  split
  · simp [tru_tt]
  · simp [tru_ff]
  · split
    · simp [tru_tt]
    · simp [tru_ff]
    · rfl
theorem mkOr_ok (a b : SE) : (mkOr a b).tru ρ = (a.tru ρ || b.tru ρ) := by
  unfold mkOr
  split
  · simp [tru_tt]
  · simp [tru_ff]
  · split
    · simp [tru_tt]
    · simp [tru_ff]
    · rfl
theorem mkBite_ok (c a b : SE) : (mkBite c a b).tru ρ = (if c.tru ρ then a.tru ρ else b.tru ρ) := by
  unfold mkBite
  split
  · rw [mkOr_ok, tru_tt]; cases c.tru ρ <;> simp
  · rw [mkAnd_ok, tru_ff]; cases c.tru ρ <;> simp
  · rw [mkAnd_ok, mkNot_ok, tru_ff]; cases c.tru ρ <;> simp
  · rw [mkOr_ok, mkNot_ok, tru_tt]; cases c.tru ρ <;> simp
  · rfl
theorem eqLit_ok : ∀ {a : SE} {z : Int} {e : SE}, eqLit a z = some e → e.tru ρ = (a.int ρ == z)
  | .lit x, z, e, h => by
    unfold eqLit at h
    split at h
    · rename_i hs; cases h; rw [intSame_eq hs]; symm; show (z == z) = true; simp
    · rename_i hs; cases h; have := intSame_ne hs; symm; show (x == z) = false; simp [this]
  | .ite c a b, z, e, h => by
    unfold eqLit at h
    split at h
    · rename_i x y hx hy
      cases h
      rw [mkBite_ok, eqLit_ok hx, eqLit_ok hy]
      show _ = ((if c.tru ρ then a.int ρ else b.int ρ) == z)
      split <;> rfl
    · cases h
  | .var _, _, _, h | .bvar _, _, _, h | .tt, _, _, h | .ff, _, _, h | .un _ _, _, _, h | .bin _ _ _, _, _, h | .bite _ _ _, _, _, h | .app _ _ _ _ _, _, _, h | .papp _ _ _ _ _, _, _, h => by cases h
theorem mkEq_ok (ok : cx.Ok ρ) (a b : SE) : (mkEq cx a b).tru ρ = (a.int ρ == b.int ρ) := by
  unfold mkEq
  split
  · rename_i x y
    show _ = (x == y)
    split
    · rename_i h; rw [intSame_eq h]; symm; show (y == y) = true; simp
    · rename_i h; have := intSame_ne h; symm; show (x == y) = false; simp [this]
  · split
    · rename_i h; rw [SE.same_eq h]; symm; show (_ == _) = true; simp
    · split
      · rename_i h
        unfold apart' at h
        split at h
        · rename_i h1 h2
          have i1 := rng_ok ok h1
          have i2 := rng_ok ok h2
          simp only [Bool.not_eq_true', Bool.and_eq_false_iff] at h
          have hne : a.int ρ ≠ b.int ρ := by
            intro e
            rcases h with h | h <;> (have := intLe_lt h; omega)
          show false = _
          simp [hne]
        · cases h
      · split
        · split
          · rename_i e he; exact eqLit_ok he
          · rfl
        · rfl
theorem mkLt_ok (ok : cx.Ok ρ) (a b : SE) : (mkLt cx a b).tru ρ = decide (a.int ρ < b.int ρ) := by
  unfold mkLt
  split
  · rename_i h1 h2
    have i1 := rng_ok ok h1
    have i2 := rng_ok ok h2
    split
    · rename_i h; have := intLe_le h; symm; show decide _ = true; simp; omega
    · split
      · rename_i h; have := intLe_le h; symm; show decide _ = false; simp; omega
      · rfl
  · rfl
theorem mkLe_ok (ok : cx.Ok ρ) (a b : SE) : (mkLe cx a b).tru ρ = decide (a.int ρ ≤ b.int ρ) := by
  unfold mkLe
  split
  · rename_i h1 h2
    have i1 := rng_ok ok h1
    have i2 := rng_ok ok h2
    split
    · rename_i h; have := intLe_le h; symm; show decide _ = true; simp; omega
    · split
      · rename_i h; have := intLe_le h; symm; show decide _ = false; simp; omega
      · rfl
  · rfl
theorem mkBeq_ok (a b : SE) : (mkBeq a b).tru ρ = (a.tru ρ == b.tru ρ) := by
  unfold mkBeq
  split
  · rw [tru_tt]; cases b.tru ρ <;> rfl
  · rw [tru_tt]; cases a.tru ρ <;> rfl
  · rw [mkNot_ok, tru_ff]; cases b.tru ρ <;> rfl
  · rw [mkNot_ok, tru_ff]; cases a.tru ρ <;> rfl
  · rfl
/-- what is known is so -/
def PcOk (ρ : Env) (pc : List (SE × Bool)) : Prop := ∀ c ∈ pc, c.1.tru ρ = c.2
theorem findPc_ok {pc : List (SE × Bool)} (h : PcOk ρ pc) {e : SE} {b : Bool} : findPc pc e = some b → e.tru ρ = b := by
  induction pc with
  | nil => intro h; cases h
  | cons c r ih =>
    intro hf
    unfold findPc at hf
    split at hf
    · rename_i hs
      cases hf
      rw [← SE.same_eq hs]
      exact h _ (by simp)
    · exact ih (fun c hc => h c (by simp [hc])) hf
theorem eqKnown_ok {pc : List (SE × Bool)} (h : PcOk ρ pc) {a b : SE} {t : Bool} (hk : eqKnown pc a b = some t) : (a.int ρ == b.int ρ) = t := by
  unfold eqKnown at hk
  split at hk
  · rename_i hs; cases hk; rw [SE.same_eq hs]; simp
  · split at hk
    · rename_i x y _
      cases hk
      show (x == y) = intSame x y
      cases hs : intSame x y
      · simp [intSame_ne hs]
      · simp [intSame_eq hs]
    · exact findPc_ok h hk
theorem transE_ok {pc : List (SE × Bool)} (h : PcOk ρ pc) {a b : SE} {t : Bool} : ∀ {l : List (SE × Bool)}, PcOk ρ l → transE pc a b l = some t → (a.int ρ == b.int ρ) = t
  | [], _, hk => by cases hk
  | (e, u) :: r, hl, hk => by
    have hr : PcOk ρ r := fun c hc => hl c (by simp [hc])
    have h0 := hl (e, u) (by simp)
    unfold transE at hk
    split at hk
    · rename_i x y
      have hxy : x.int ρ = y.int ρ := by
        have : (x.int ρ == y.int ρ) = true := h0
        simpa using this
      split at hk
      · rename_i hs
        split at hk
        · rename_i v hv; cases hk; rw [← SE.same_eq hs, hxy]; exact eqKnown_ok h hv
        · exact transE_ok h hr hk
      · split at hk
        · rename_i hs
          split at hk
          · rename_i v hv; cases hk; rw [← SE.same_eq hs, ← hxy]; exact eqKnown_ok h hv
          · exact transE_ok h hr hk
        · exact transE_ok h hr hk
    · exact transE_ok h hr hk
theorem dec_ok {pc : List (SE × Bool)} (h : PcOk ρ pc) : ∀ {e : SE} {b : Bool}, dec pc e = some b → e.tru ρ = b := by
  intro e
  induction e with
  | tt => intro b hd; cases hd; rfl
  | ff => intro b hd; cases hd; rfl
  | un o a ih =>
    intro b hd
    unfold dec at hd
    cases o with
    | not =>
      simp only [] at hd
      split at hd
      · rename_i hb; cases hd; show (!(a.tru ρ)) = _; rw [ih hb]
      · cases hd
    | _ => cases hd
  | bin o a b iha ihb =>
    intro t hd
    unfold dec at hd
    cases o with
    | and =>
      simp only [] at hd
      show (a.tru ρ && b.tru ρ) = t
      split at hd
      · rename_i ha; cases hd; rw [iha ha]; rfl
      · rename_i ha; rw [iha ha, ihb hd]; rfl
      · split at hd
        · rename_i hb; cases hd; rw [ihb hb]; simp
        · exact findPc_ok h hd
    | or =>
      simp only [] at hd
      show (a.tru ρ || b.tru ρ) = t
      split at hd
      · rename_i ha; cases hd; rw [iha ha]; rfl
      · rename_i ha; rw [iha ha, ihb hd]; rfl
      · split at hd
        · rename_i hb; cases hd; rw [ihb hb]; simp
        · exact findPc_ok h hd
    | eq =>
      simp only [] at hd
      split at hd
      · rename_i hf; cases hd; exact findPc_ok h hf
      · exact transE_ok h h hd
    | _ => exact findPc_ok h hd
  | _ => intro b hd; exact findPc_ok h hd
theorem assume0_ok : ∀ {e : SE} {t : Bool} {pc : List (SE × Bool)}, PcOk ρ pc → e.tru ρ = t → PcOk ρ (assume0 pc e t) := by
  have base : ∀ {e : SE} {t : Bool} {pc : List (SE × Bool)}, PcOk ρ pc → e.tru ρ = t → PcOk ρ ((e, t) :: pc) := by
    intro e t pc h he c hc
    rcases List.mem_cons.1 hc with rfl | hc
    · exact he
    · exact h c hc
  intro e
  induction e with
  | un o a ih =>
    intro t pc h he
    unfold assume0
    cases o with
    | not => exact ih h (by have : (!(a.tru ρ)) = t := he; rw [← this]; simp)
    | _ => exact base h he
  | bin o a b iha ihb =>
    intro t pc h he
    unfold assume0
    cases o with
    | and =>
      cases t with
      | true =>
        have : (a.tru ρ && b.tru ρ) = true := he
        simp only [Bool.and_eq_true] at this
        exact ihb (iha h this.1) this.2
      | false => exact base h he
    | or =>
      cases t with
      | false =>
        have : (a.tru ρ || b.tru ρ) = false := he
        simp only [Bool.or_eq_false_iff] at this
        exact ihb (iha h this.1) this.2
      | true => exact base h he
    | _ => exact base h he
  | _ => intro t pc h he; exact base h he
theorem derived_ok {full : List (SE × Bool)} (hf : PcOk ρ full) : ∀ {l acc : List (SE × Bool)}, PcOk ρ l → PcOk ρ acc → PcOk ρ (derived full l acc)
  | [], acc, _, h => h
  | (e, t) :: r, acc, hl, h => by
    have hr : PcOk ρ r := fun c hc => hl c (by simp [hc])
    have h0 := hl (e, t) (by simp)
    unfold derived
    split
    · rename_i a b
      have h0 : (a.tru ρ && b.tru ρ) = false := h0
      split
      · rename_i ha hb; rw [dec_ok hf ha] at h0; exact derived_ok hf hr (assume0_ok h (by simpa using h0))
      · rename_i ha hb; rw [dec_ok hf hb] at h0; exact derived_ok hf hr (assume0_ok h (by simpa using h0))
      · exact derived_ok hf hr h
    · rename_i a b
      have h0 : (a.tru ρ || b.tru ρ) = true := h0
      split
      · rename_i ha hb; rw [dec_ok hf ha] at h0; exact derived_ok hf hr (assume0_ok h (by simpa using h0))
      · rename_i ha hb; rw [dec_ok hf hb] at h0; exact derived_ok hf hr (assume0_ok h (by simpa using h0))
      · exact derived_ok hf hr h
    · exact derived_ok hf hr h
theorem more_ok {pc : List (SE × Bool)} (h : PcOk ρ pc) : PcOk ρ (more pc) := derived_ok h h h
theorem assume_ok {e : SE} {t : Bool} {pc : List (SE × Bool)} (h : PcOk ρ pc) (he : e.tru ρ = t) : PcOk ρ (assume pc e t) := more_ok (more_ok (assume0_ok h he))
end
theorem bad_ok {ρ : Env} {pc : List (SE × Bool)} (h : PcOk ρ pc) : ∀ {l : List (SE × Bool)}, PcOk ρ l → bad pc l = true → False
  | [], _, hb => by cases hb
  | (e, t) :: r, hl, hb => by
    have h0 := hl (e, t) (by simp)
    have hr : PcOk ρ r := fun c hc => hl c (by simp [hc])
    unfold bad at hb
    split at hb
    · rename_i hd; have := dec_ok h hd; rw [this] at h0; cases h0
    · rename_i hd; have := dec_ok h hd; rw [this] at h0; cases h0
    · exact bad_ok h hr hb
theorem branch_ok {ρ : Env} {pc : List (SE × Bool)} (h : PcOk ρ pc) {e : SE} {a b : List (SE × Bool) → Tree} {Q : SX → St → Prop} (hh : (branch pc e a b).Holds ρ Q) :
    (e.tru ρ = true → (a (assume pc e true)).Holds ρ Q) ∧ (e.tru ρ = false → (b (assume pc e false)).Holds ρ Q) := by
  unfold branch at hh
  split at hh
  · rename_i hb
    exact ⟨fun ht => (bad_ok (assume_ok h ht) (assume_ok h ht) hb).elim, fun _ => hh⟩
  · split at hh
    · rename_i hb
      exact ⟨fun _ => hh, fun ht => (bad_ok (assume_ok h ht) (assume_ok h ht) hb).elim⟩
    · replace hh : if e.tru ρ then _ else _ := hh
      exact ⟨fun ht => by rw [if_pos ht] at hh; exact hh, fun ht => by rw [ht, if_neg (by simp)] at hh; exact hh⟩
theorem absC_ok {ρ : Env} {β : Lay} {v : Value} {x : SC} (h : absC v = some x) : x.den ρ β = some v := by
  unfold absC at h
  split at h <;> cases h <;> first | rfl | skip
  rename_i b
  cases b <;> rfl
theorem absL_ok {ρ : Env} {β : Lay} : ∀ {vs : List Value} {l : List SC}, absL vs = some l → denL ρ β l = some vs
  | [], _, h => by cases h; rfl
  | v :: r, l, h => by
    unfold absL at h
    split at h
    · rename_i x l' hx hl
      cases h
      unfold denL
      simp only [absC_ok hx, absL_ok hl]
    · cases h
theorem absP_ok {ρ : Env} {β : Lay} {v : Value} {x : SP} (h : absP v = some x) : x.den ρ β = some v := by
  unfold absP at h
  split at h
  · rename_i cs
    cases hl : absL cs.toList with
    | none => simp [hl] at h
    | some l =>
      rw [hl] at h; cases h
      simp [SP.den, absL_ok hl]
  · cases hl : absC v with
    | none => simp [hl] at h
    | some l => rw [hl] at h; cases h; exact absC_ok hl
theorem SC.den_one {ρ : Env} {cx : Ctx} (ok : cx.Ok ρ) {β : Lay} {x : SC} {v : Value} (h : x.den ρ β = some v) : v.oneCell' = true := by
  cases x with
  | int k e => cases h; rfl
  | bool e => cases h; rfl
  | str s => cases h; rfl
  | nilp => cases h; rfl
  | nils => cases h; rfl
  | nilf => cases h; rfl
  | strv i => cases h; rfl
  | osl i n => cases h; rfl
  | var i => cases h; exact ok.one i
  | ptr b off | slice b off l c | row b l =>
    simp only [SC.den] at h
    cases hb : β b with
    | none => simp [hb] at h
    | some y => rw [hb] at h; cases h; rfl
  | fn f a b =>
    simp only [SC.den] at h
    split at h
    · cases h; rfl
    · cases h
theorem denL_one {ρ : Env} {cx : Ctx} (ok : cx.Ok ρ) {β : Lay} : ∀ {l : List SC} {vs : List Value}, denL ρ β l = some vs → ∀ v ∈ vs, v.oneCell' = true
  | [], _, e => by cases e; simp
  | x :: r, vs, e => by
    unfold denL at e
    cases hx : x.den ρ β with
    | none => simp [hx] at e
    | some v =>
      cases hr : denL ρ β r with
      | none => simp [hx, hr] at e
      | some l =>
        simp only [hx, hr] at e; cases e
        intro u hu
        rcases List.mem_cons.1 hu with rfl | hu
        · exact SC.den_one ok hx
        · exact denL_one ok hr u hu
/-- a value's cells -/
theorem SP.cells_ok {ρ : Env} {cx : Ctx} (ok : cx.Ok ρ) {β : Lay} {x : SP} {v : Value} (h : x.den ρ β = some v) : ∃ cs, denL ρ β x.cells = some cs ∧ v.cells = cs.toArray := by
  cases x with
  | c y =>
    refine ⟨[v], ?_, ?_⟩
    · show denL ρ β [y] = _; unfold denL; have : y.den ρ β = some v := h; simp [this, denL]
    · have := SC.den_one ok h; cases v <;> first | rfl | cases this
  | agg l =>
    simp only [SP.den] at h
    cases hl : denL ρ β l with
    | none => simp [hl] at h
    | some cs => rw [hl] at h; cases h; exact ⟨cs, hl, rfl⟩
end Go.Proofs.Ytddfafapahnaaaa.Sym
