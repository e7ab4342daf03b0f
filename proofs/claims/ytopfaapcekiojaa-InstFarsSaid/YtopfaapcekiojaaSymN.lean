/- What the terms made smaller stand for: ranges and words. -/
import Derived.Test.YtopfaapcekiojaaSymM
namespace Go.Proofs.Ytopfaapcekiojaa.Sym
open Go Go.RowKit Go.Proofs.Ytopfaapcekiojaa

theorem intLe_le {a b : Int} (h : intLe a b = true) : a ≤ b := by
  unfold intLe at h
  split at h
  · exact Int.ofNat_le.2 (Nat.le_of_ble_eq_true h)
  · exact Int.le_of_lt (Int.negSucc_lt_zero _ |> fun h => Int.lt_of_lt_of_le h (Int.natCast_nonneg _))
  · cases h
  · have := Nat.le_of_ble_eq_true h
    simp only [Int.negSucc_eq]; omega
theorem intLe_lt {a b : Int} (h : intLe a b = false) : b < a := by
  unfold intLe at h
  split at h
  · rename_i a b
    have : ¬ (a ≤ b) := fun q => by rw [Nat.ble_eq_true_of_le q] at h; cases h
    exact Int.ofNat_lt.2 (by omega)
  · cases h
  · exact Int.lt_of_lt_of_le (Int.negSucc_lt_zero _) (Int.natCast_nonneg _)
  · rename_i a b
    have : ¬ (b ≤ a) := fun q => by rw [Nat.ble_eq_true_of_le q] at h; cases h
    simp only [Int.negSucc_eq]; omega
theorem p2_eq (n : Nat) : p2 n = 2 ^ n := by
  have : (2 : Int) ^ n = ((2 ^ n : Nat) : Int) := by simp
  rw [this]; rfl
theorem p2_pos (n : Nat) : 0 < p2 n := Int.ofNat_lt.2 (Nat.two_pow_pos n)
theorem pow_pos' (n : Nat) : (0 : Int) < 2 ^ n := Int.pow_pos (by decide)
theorem logI_ok {m : Int} {k : Nat} (h : logI m = some k) : m = 2 ^ k := by
  unfold logI at h
  split at h
  · rename_i n
    split at h
    · rename_i hb
      cases h
      have := Nat.eq_of_beq_eq_true hb
      rw [← p2_eq]
      show Int.ofNat n = Int.ofNat (2 ^ n.log2)
      exact congrArg Int.ofNat this.symm
    · cases h
  · cases h
theorem lenN_lt (k : Nat) : k < 2 ^ lenN k := by
  unfold lenN
  split
  · rename_i h; rw [Nat.eq_of_beq_eq_true h]; decide
  · exact Nat.lt_log2_self
theorem maxI_ok (a b : Int) : maxI a b = if a ≤ b then b else a := by
  unfold maxI
  split
  · rename_i h; rw [if_pos (intLe_le h)]
  · rename_i h; rw [if_neg (by have := intLe_lt h; omega)]
theorem minI_ok (a b : Int) : minI a b = if a ≤ b then a else b := by
  unfold minI
  split
  · rename_i h; rw [if_pos (intLe_le h)]
  · rename_i h; rw [if_neg (by have := intLe_lt h; omega)]
theorem findIv_ok {h : Nat} {x : SE} {e : Iv} : ∀ {l : List Iv}, findIv h x l = some e → e ∈ l ∧ e.x = x
  | [], hf => by cases hf
  | y :: r, hf => by
    rw [findIv_eq] at hf
    unfold findIvC at hf
    split at hf
    · split at hf
      · rename_i hs; cases hf; exact ⟨List.mem_cons_self, SE.same_eq hs⟩
      · rw [← findIv_eq] at hf; have := findIv_ok hf; exact ⟨List.mem_cons_of_mem _ this.1, this.2⟩
    · rw [← findIv_eq] at hf; have := findIv_ok hf; exact ⟨List.mem_cons_of_mem _ this.1, this.2⟩
theorem findF_ok {h : Nat} {x : SE} {t : Bool} : ∀ {l : List Fact}, findF h x l = some t → ∃ f ∈ l, f.e = x ∧ f.t = t
  | [], hf => by cases hf
  | y :: r, hf => by
    rw [findF_eq] at hf
    unfold findFC at hf
    split at hf
    · split at hf
      · rename_i hs; cases hf; exact ⟨y, List.mem_cons_self, SE.same_eq hs, rfl⟩
      · rw [← findF_eq] at hf; obtain ⟨f, h1, h2⟩ := findF_ok hf; exact ⟨f, List.mem_cons_of_mem _ h1, h2⟩
    · rw [← findF_eq] at hf; obtain ⟨f, h1, h2⟩ := findF_ok hf; exact ⟨f, List.mem_cons_of_mem _ h1, h2⟩

/-- the 64 bits of a number -/
def W (x : Int) : Nat := (x % 18446744073709551616).toNat
theorem mtV_eq (m v : Nat) (x : Int) : mtV m v x = (W x &&& m == v) := rfl
structure IvOk (ρ : Env) (e : Iv) : Prop where
  lo : ∀ k, e.lo = some k → k ≤ e.x.int ρ
  hi : ∀ k, e.hi = some k → e.x.int ρ ≤ k
  ne : ∀ k ∈ e.ne, e.x.int ρ ≠ k
  km : W (e.x.int ρ) &&& e.km = e.kv
  nm : ∀ p ∈ e.nm, mtV p.1 p.2 (e.x.int ρ) = false
/-- what is known is so -/
structure PcOk (ρ : Env) (pc : PC) : Prop where
  bd : ∀ i l h, lk pc.bd i = some (l, h) → l ≤ ρ.i i ∧ ρ.i i ≤ h
  fb : ∀ f l h, lk pc.fb f = some (l, h) → ∀ a b c d, l ≤ ρ.f f a b c d ∧ ρ.f f a b c d ≤ h
  iv : ∀ e ∈ pc.iv, IvOk ρ e
  fs : ∀ f ∈ pc.fs, f.e.tru ρ = f.t
  cs : ∀ f ∈ pc.cs, f.e.tru ρ = f.t
  good : pc.bad = false

theorem wrap_id {k : IntKind} {n : Int} (h1 : k.min ≤ n) (h2 : n ≤ k.max) : k.wrap n = n := by
  cases k <;> simp [IntKind.wrap, IntKind.min, IntKind.max, IntKind.signed, IntKind.bits] at * <;> omega
theorem wrap_in (k : IntKind) (n : Int) : k.min ≤ k.wrap n ∧ k.wrap n ≤ k.max := by
  cases k <;> simp [IntKind.wrap, IntKind.min, IntKind.max, IntKind.signed, IntKind.bits] <;> omega
theorem within_ok {k : IntKind} {l h : Int} (hw : Sym.within k l h = true) : k.min ≤ l ∧ h ≤ k.max := by
  unfold Sym.within at hw
  split at hw
  · rename_i h1; exact ⟨intLe_le h1, intLe_le hw⟩
  · cases hw
theorem bandV_le {k : IntKind} {x m : Int} (h0 : 0 ≤ m) (hm : m ≤ k.max) : 0 ≤ bandV k x m ∧ bandV k x m ≤ m := by
  have hb : (BitVec.ofInt k.bits x &&& BitVec.ofInt k.bits m).toNat ≤ m.toNat := by
    rw [BitVec.toNat_and]
    refine Nat.le_trans Nat.and_le_right ?_
    rw [BitVec.toNat_ofInt]
    have : m % (2 ^ k.bits : Nat) = m := Int.emod_eq_of_lt h0 (by cases k <;> simp [IntKind.max, IntKind.signed, IntKind.bits] at * <;> omega)
    rw [this]
    exact Nat.le_refl _
  unfold bandV
  have hm' : ((BitVec.ofInt k.bits x &&& BitVec.ofInt k.bits m).toNat : Int) ≤ m := by omega
  rw [wrap_id (k := k) (n := ((BitVec.ofInt k.bits x &&& BitVec.ofInt k.bits m).toNat : Int)) (by have : k.min ≤ 0 := by cases k <;> simp [IntKind.min, IntKind.signed, IntKind.bits]
                                                                                                  omega) (by omega)]
  omega
section
variable {ρ : Env} {pc : PC}
theorem meetLo_ok {l v : Int} {o : Option Int} (h1 : l ≤ v) (h2 : ∀ k, o = some k → k ≤ v) : meetLo l o ≤ v := by
  unfold meetLo
  split
  · rename_i m; have := h2 m rfl; rw [maxI_ok]; split <;> omega
  · exact h1
theorem meetHi_ok {h v : Int} {o : Option Int} (h1 : v ≤ h) (h2 : ∀ k, o = some k → v ≤ k) : v ≤ meetHi h o := by
  unfold meetHi
  split
  · rename_i m; have := h2 m rfl; rw [minI_ok]; split <;> omega
  · exact h1
theorem meet_ok (ok : PcOk ρ pc) {o : Option (Int × Int)} {x : SE} {hs : Nat} (ho : ∀ l h, o = some (l, h) → l ≤ x.int ρ ∧ x.int ρ ≤ h) {l h : Int} (e : meet o (findIv hs x pc.iv) = some (l, h)) : l ≤ x.int ρ ∧ x.int ρ ≤ h := by
  unfold meet at e
  split at e
  · exact ho l h e
  · rename_i i hi
    obtain ⟨hm, rfl⟩ := findIv_ok hi
    have k := ok.iv _ hm
    split at e
    · rename_i l' h'
      cases e
      have := ho l' h' rfl
      exact ⟨meetLo_ok this.1 k.lo, meetHi_ok this.2 k.hi⟩
    · split at e
      · rename_i a b ha hb
        cases e
        exact ⟨k.lo _ ha, k.hi _ hb⟩
      · cases e
theorem fdiv_mono {a b c : Int} (hc : 0 < c) (h : a ≤ b) : a / c ≤ b / c := Int.ediv_le_ediv hc h
theorem sextV_bd (n : Nat) (x : Int) : - 2 ^ n ≤ sextV n x ∧ sextV n x ≤ 2 ^ n := by
  unfold sextV
  have h1 := Int.emod_nonneg x (Int.ne_of_gt (pow_pos' n))
  have h2 := Int.emod_lt_of_pos x (pow_pos' n)
  split <;> omega
/-- the bounds of a term, and of what is compared in it -/
def RngFor (ρ : Env) (pc : PC) (e : SE) : Prop := ∀ l h : Int, rng pc e = some (l, h) → l ≤ e.int ρ ∧ e.int ρ ≤ h
theorem quickB_ok (ok : PcOk ρ pc) {o : BO} {x y : SE} (hx : RngFor ρ pc x) (hy : RngFor ρ pc y) {t : Bool} (h : quickB pc o (rng pc x) (rng pc y) (.bin o x y) = some t) : (SE.bin o x y).tru ρ = t := by
  unfold quickB at h
  split at h
  · show decide (x.int ρ < y.int ρ) = t
    split at h
    · rename_i h1 h2
      have b1 := hx _ _ h1
      have b2 := hy _ _ h2
      split at h
      · rename_i q; have := intLe_le q; cases h; simp; omega
      · split at h
        · rename_i q; have := intLe_le q; cases h; simp; omega
        · cases h
    · cases h
  · show (x.int ρ == y.int ρ) = t
    split at h
    · rename_i h1 h2
      have b1 := hx _ _ h1
      have b2 := hy _ _ h2
      split at h
      · rename_i q
        cases h
        rw [Bool.and_eq_false_iff] at q
        have : x.int ρ ≠ y.int ρ := by
          intro e
          rcases q with q | q <;> (have := intLe_lt q; omega)
        simpa using this
      · split at h
        · rename_i q
          simp only [Bool.and_eq_true] at q
          have q1 := intSame_eq q.1
          have q2 := intSame_eq q.2.1
          have q3 := intSame_eq q.2.2
          cases h
          have : x.int ρ = y.int ρ := by omega
          simpa using this
        · cases h
    · cases h
  · obtain ⟨f, hm, h1, h2⟩ := findF_ok h
    have := ok.fs f hm
    rw [h1, h2] at this
    exact this
theorem pickR_ok {t : Option Bool} {c a b : SE} {ra rb : Option (Int × Int)} (ht : ∀ x, t = some x → c.tru ρ = x) (ha : c.tru ρ = true → ∀ l h, ra = some (l, h) → l ≤ a.int ρ ∧ a.int ρ ≤ h) (hb : c.tru ρ = false → ∀ l h, rb = some (l, h) → l ≤ b.int ρ ∧ b.int ρ ≤ h) {l h : Int} (e : pickR t ra rb = some (l, h)) : l ≤ (SE.ite c a b).int ρ ∧ (SE.ite c a b).int ρ ≤ h := by
  show l ≤ (if c.tru ρ then a.int ρ else b.int ρ) ∧ (if c.tru ρ then a.int ρ else b.int ρ) ≤ h
  unfold pickR at e
  split at e
  · have := ht true rfl; rw [this]; exact ha this _ _ e
  · have := ht false rfl; rw [this]; exact hb this _ _ e
  · split at e
    · rename_i h1 h2
      cases e
      rw [minI_ok, maxI_ok]
      cases hc : c.tru ρ
      · have i2 := hb hc _ _ rfl
        simp only [Bool.false_eq_true, if_false]
        split <;> split <;> omega
      · have i1 := ha hc _ _ rfl
        simp only [if_true]
        split <;> split <;> omega
    · cases e
theorem clipA_ok {o : BO} {x y a : SE} {ra : Option (Int × Int)} (hr : ∀ l h, ra = some (l, h) → l ≤ a.int ρ ∧ a.int ρ ≤ h) (hc : (SE.bin o x y).tru ρ = true) : ∀ l h, clipA o x y a ra = some (l, h) → l ≤ a.int ρ ∧ a.int ρ ≤ h := by
  intro l h e
  unfold clipA at e
  split at e
  · rename_i d l' h'
    have := hr l' h' rfl
    have hc : decide (x.int ρ < d) = true := hc
    have hc := of_decide_eq_true hc
    split at e
    · rename_i hs
      have := SE.same_eq hs
      subst this
      cases e
      rw [minI_ok]
      split <;> omega
    · cases e; omega
  · exact hr l h e
theorem clipB_ok {o : BO} {x y b : SE} {rb : Option (Int × Int)} (hr : ∀ l h, rb = some (l, h) → l ≤ b.int ρ ∧ b.int ρ ≤ h) (hc : (SE.bin o x y).tru ρ = false) : ∀ l h, clipB o x y b rb = some (l, h) → l ≤ b.int ρ ∧ b.int ρ ≤ h := by
  intro l h e
  unfold clipB at e
  split at e
  · rename_i d l' h'
    have := hr l' h' rfl
    have hc : decide (x.int ρ < d) = false := hc
    have hc := of_decide_eq_false hc
    split at e
    · rename_i hs
      have := SE.same_eq hs
      subst this
      cases e
      rw [maxI_ok]
      split <;> omega
    · cases e; omega
  · exact hr l h e
theorem b2iR_ok {t : Option Bool} {c : SE} (ht : ∀ x, t = some x → c.tru ρ = x) {l h : Int} (e : b2iR t = some (l, h)) : l ≤ (SE.un .b2i c).int ρ ∧ (SE.un .b2i c).int ρ ≤ h := by
  show l ≤ (if c.tru ρ then (1 : Int) else 0) ∧ (if c.tru ρ then (1 : Int) else 0) ≤ h
  unfold b2iR at e
  split at e
  · cases e; rw [ht true rfl]; exact ⟨Int.le_refl _, Int.le_refl _⟩
  · cases e; rw [ht false rfl]; exact ⟨Int.le_refl _, Int.le_refl _⟩
  · cases e; split <;> simp
theorem rng_ok' (ok : PcOk ρ pc) : ∀ e : SE, RngFor ρ pc e ∧ ∀ o x y, e = .bin o x y → RngFor ρ pc x ∧ RngFor ρ pc y := by
  intro e
  induction e with
  | lit n => refine ⟨?_, (by intro o x y q; cases q)⟩; intro l h e; simp [rng] at e; obtain ⟨rfl, rfl⟩ := e; exact ⟨Int.le_refl _, Int.le_refl _⟩
  | var i => refine ⟨?_, (by intro o x y q; cases q)⟩; intro l h e; exact meet_ok ok (x := .var i) (fun l h e => ok.bd i l h e) e
  | app f a b c d => refine ⟨?_, (by intro o x y q; cases q)⟩; intro l h e; exact meet_ok ok (x := .app f a b c d) (fun l h e => ok.fb f l h e _ _ _ _) e
  | un o a ih =>
    have ih2 := ih.2
    replace ih : ∀ {l h : Int}, rng pc a = some (l, h) → l ≤ a.int ρ ∧ a.int ρ ≤ h := fun {l h} => ih.1 l h
    refine ⟨?_, (by intro o x y q; cases q)⟩
    intro l h e
    unfold rng at e
    cases o with
    | wrap k =>
      simp only [rngUn] at e
      show l ≤ k.wrap (a.int ρ) ∧ k.wrap (a.int ρ) ≤ h
      split at e
      · rename_i l' h' hr
        obtain ⟨i1, i2⟩ := ih hr
        split at e
        · rename_i hb
          have hb := within_ok hb
          cases e
          rw [wrap_id (by omega) (by omega)]
          exact ⟨i1, i2⟩
        · split at e
          · rename_i hs
            have := intSame_eq hs
            have e2 : a.int ρ = l' := by omega
            cases e
            rw [e2]
            exact ⟨Int.le_refl _, Int.le_refl _⟩
          · cases e; exact wrap_in k _
      · cases e; exact wrap_in k _
    | b2i =>
      simp only [] at e
      split at e
      · rename_i o x y
        obtain ⟨hx, hy⟩ := ih2 o x y rfl
        exact b2iR_ok (fun t ht => quickB_ok ok hx hy ht) e
      · refine b2iR_ok (fun t ht => ?_) e
        obtain ⟨f, hm, h1, h2⟩ := findF_ok ht
        have := ok.fs f hm
        rw [h1, h2] at this
        exact this
    | shr n =>
      simp only [rngUn] at e
      split at e
      · rename_i l' h' hr
        obtain ⟨i1, i2⟩ := ih hr
        cases e
        show _ ≤ (a.int ρ).fdiv (2 ^ n) ∧ (a.int ρ).fdiv (2 ^ n) ≤ _
        rw [p2_eq, Int.fdiv_eq_ediv_of_nonneg _ (Int.le_of_lt (pow_pos' n))]
        exact ⟨fdiv_mono (pow_pos' n) i1, fdiv_mono (pow_pos' n) i2⟩
      · cases e
    | bits lo n =>
      refine meet_ok ok (x := .un (.bits lo n) a) (fun l h e => ?_) e
      cases e
      show 0 ≤ a.int ρ / 2 ^ lo % 2 ^ n ∧ a.int ρ / 2 ^ lo % 2 ^ n ≤ p2 n - 1
      rw [p2_eq]
      have h1 := Int.emod_nonneg (a.int ρ / 2 ^ lo) (Int.ne_of_gt (pow_pos' n))
      have h2 := Int.emod_lt_of_pos (a.int ρ / 2 ^ lo) (pow_pos' n)
      omega
    | sext n =>
      cases e
      rw [p2_eq]
      exact sextV_bd n _
    | not => cases e
  | bin o a b iha ihb =>
    refine ⟨?_, (by intro o' x y q; cases q; exact ⟨iha.1, ihb.1⟩)⟩
    replace iha : ∀ {l h : Int}, rng pc a = some (l, h) → l ≤ a.int ρ ∧ a.int ρ ≤ h := fun {l h} => iha.1 l h
    replace ihb : ∀ {l h : Int}, rng pc b = some (l, h) → l ≤ b.int ρ ∧ b.int ρ ≤ h := fun {l h} => ihb.1 l h
    intro l h e
    unfold rng rngBin at e
    cases o with
    | add =>
      simp only [] at e
      split at e
      · rename_i h1 h2
        have := iha h1; have := ihb h2
        cases e
        show _ ≤ a.int ρ + b.int ρ ∧ a.int ρ + b.int ρ ≤ _
        omega
      · cases e
    | sub =>
      simp only [] at e
      split at e
      · rename_i h1 h2
        have := iha h1; have := ihb h2
        cases e
        show _ ≤ a.int ρ - b.int ρ ∧ a.int ρ - b.int ρ ≤ _
        omega
      · cases e
    | mul =>
      simp only [] at e
      split at e
      · rename_i l' h' m h1
        have i := iha h1
        split at e
        · rename_i hm
          have hm := intLe_le hm
          cases e
          exact ⟨Int.mul_le_mul_of_nonneg_right i.1 hm, Int.mul_le_mul_of_nonneg_right i.2 hm⟩
        · cases e
      · cases e
    | quo =>
      simp only [] at e
      split at e
      · rename_i l' h' m h1
        have i := iha h1
        split at e
        · rename_i hm
          have hm := intLe_le hm
          cases e
          have h0 : (0 : Int) < m := by omega
          exact ⟨Int.tdiv_le_tdiv h0 i.1, Int.tdiv_le_tdiv h0 i.2⟩
        · cases e
      · cases e
    | rem =>
      simp only [] at e
      split at e
      · rename_i m
        split at e
        · rename_i hm
          have hm := intLe_le hm
          have h1 : - (m - 1) ≤ (a.int ρ).tmod m ∧ (a.int ρ).tmod m ≤ m - 1 := by
            have b1 := Int.lt_tmod_of_pos (a.int ρ) (show (0 : Int) < m by omega)
            have b2 := Int.tmod_lt_of_pos (a.int ρ) (show (0 : Int) < m by omega)
            omega
          split at e
          · rename_i l' h' hr
            split at e
            · rename_i h0
              have h0 := intLe_le h0
              cases e
              have := (iha hr).1
              exact ⟨Int.tmod_nonneg m (Int.le_trans h0 this), h1.2⟩
            · cases e; exact h1
          · cases e; exact h1
        · cases e
      · cases e
    | band k =>
      simp only [] at e
      split at e
      · rename_i m
        split at e
        · rename_i hb
          simp only [Bool.and_eq_true] at hb
          cases e
          exact bandV_le (intLe_le hb.1) (intLe_le hb.2)
        · cases e; exact wrap_in k _
      · cases e; exact wrap_in k _
    | bor k => cases e; exact wrap_in k _
    | bxor k => cases e; exact wrap_in k _
    | bclr k => cases e; exact wrap_in k _
    | cat m =>
      simp only [] at e
      split at e
      · rename_i l' h' hr
        obtain ⟨i1, i2⟩ := iha hr
        cases e
        show _ ≤ a.int ρ * 2 ^ m + b.int ρ % 2 ^ m ∧ a.int ρ * 2 ^ m + b.int ρ % 2 ^ m ≤ _
        rw [p2_eq]
        have h1 := Int.emod_nonneg (b.int ρ) (Int.ne_of_gt (pow_pos' m))
        have h2 := Int.emod_lt_of_pos (b.int ρ) (pow_pos' m)
        have h3 := Int.mul_le_mul_of_nonneg_right i1 (Int.le_of_lt (pow_pos' m))
        have h4 := Int.mul_le_mul_of_nonneg_right i2 (Int.le_of_lt (pow_pos' m))
        omega
      · cases e
    | _ => cases e
  | ite c a b ihc iha ihb =>
    refine ⟨?_, (by intro o x y q; cases q)⟩
    intro l h e
    unfold rng at e
    split at e
    · rename_i o x y
      obtain ⟨hx, hy⟩ := ihc.2 o x y rfl
      exact pickR_ok (fun t ht => quickB_ok ok hx hy ht) (clipA_ok iha.1) (clipB_ok ihb.1) e
    · refine pickR_ok (fun t ht => ?_) (fun _ => iha.1) (fun _ => ihb.1) e
      obtain ⟨f, hm, h1, h2⟩ := findF_ok ht
      have := ok.fs f hm
      rw [h1, h2] at this
      exact this
  | _ => exact ⟨(by intro l h e; cases e), (by intro o x y q; cases q)⟩
theorem rng_ok (ok : PcOk ρ pc) {e : SE} {l h : Int} (hr : rng pc e = some (l, h)) : l ≤ e.int ρ ∧ e.int ρ ≤ h := (rng_ok' ok e).1 l h hr
theorem bnd_ok (ok : PcOk ρ pc) {e : SE} {l h : Int} (hb : bnd pc e = some (l, h)) : l ≤ e.int ρ ∧ e.int ρ ≤ h := by
  unfold bnd at hb
  split at hb
  · cases hb; exact ⟨Int.le_refl _, Int.le_refl _⟩
  · exact rng_ok ok hb
  · exact meet_ok ok (fun l h hr => rng_ok ok hr) hb
theorem low_ok (ok : PcOk ρ pc) {e : SE} {n : Nat} (h : low (bnd pc e) n = true) : 0 ≤ e.int ρ ∧ e.int ρ < 2 ^ n := by
  unfold low at h
  split at h
  · rename_i a b hr
    have := bnd_ok ok hr
    have h2 : b ≤ 2 ^ n - 1 := Nat.le_of_ble_eq_true h
    have h3 : 0 < 2 ^ n := Nat.two_pow_pos n
    have e1 : (0 : Int) ≤ Int.ofNat a := Int.natCast_nonneg a
    have e2 : Int.ofNat b < ((2 ^ n : Nat) : Int) := Int.ofNat_lt.2 (by omega)
    rw [← p2_eq]
    show _ ∧ _ < ((2 ^ n : Nat) : Int)
    omega
  · cases h
theorem lenR_ok' (_ : PcOk ρ pc) {e : SE} {k : Nat} {r : Option (Int × Int)} (hr : ∀ l h, r = some (l, h) → l ≤ e.int ρ ∧ e.int ρ ≤ h) (h : lenR r = some k) : 0 ≤ e.int ρ ∧ e.int ρ < 2 ^ k := by
  unfold lenR at h
  split at h
  · rename_i a b
    cases h
    have := hr _ _ rfl
    have h3 := lenN_lt b
    have e1 : (0 : Int) ≤ Int.ofNat a := Int.natCast_nonneg a
    have e2 : Int.ofNat b < ((2 ^ lenN b : Nat) : Int) := Int.ofNat_lt.2 h3
    rw [← p2_eq]
    show _ ∧ _ < ((2 ^ lenN b : Nat) : Int)
    omega
  · cases h
theorem lenR_ok (ok : PcOk ρ pc) {e : SE} {k : Nat} (h : lenR (bnd pc e) = some k) : 0 ≤ e.int ρ ∧ e.int ρ < 2 ^ k := lenR_ok' ok (fun _ _ hr => bnd_ok ok hr) h
theorem sgnd_ok (ok : PcOk ρ pc) {e : SE} {n : Nat} (h : sgnd (bnd pc e) n = true) : - 2 ^ n ≤ e.int ρ ∧ e.int ρ < 2 ^ n := by
  unfold sgnd at h
  split at h
  · rename_i l u hr
    have := bnd_ok ok hr
    split at h
    · rename_i h1
      have h1 := intLe_le h1
      have h2 := intLe_le h
      rw [p2_eq] at h1 h2
      omega
    · cases h
  · cases h
/-! ### dividing by powers of two -/
theorem div_div2 (x : Int) (a b : Nat) : x / 2 ^ a / 2 ^ b = x / 2 ^ (a + b) := by
  rw [Int.ediv_ediv_of_nonneg (Int.le_of_lt (pow_pos' a)), Int.pow_add]
theorem mod_mod2 (x : Int) {a b : Nat} (h : a ≤ b) : x % 2 ^ b % 2 ^ a = x % 2 ^ a := by
  refine Int.emod_emod_of_dvd x ?_
  obtain ⟨c, rfl⟩ := Nat.exists_eq_add_of_le h
  exact ⟨2 ^ c, by rw [Int.pow_add]⟩
/-- the upper and the lower bits -/
theorem join2 (y : Int) (k m : Nat) : y / 2 ^ m % 2 ^ k * 2 ^ m + y % 2 ^ m = y % 2 ^ (k + m) := by
  have h1 := Int.emod_def y (2 ^ (k + m))
  have h2 := Int.emod_def (y / 2 ^ m) (2 ^ k)
  have h3 := Int.emod_def y (2 ^ m)
  have h4 := div_div2 y m k
  rw [h1, h2, h3, h4, Nat.add_comm m k, Int.sub_mul]
  have e : (2 : Int) ^ (k + m) * (y / 2 ^ (k + m)) = 2 ^ k * (y / 2 ^ (k + m)) * 2 ^ m := by
    rw [Int.pow_add, Int.mul_assoc, Int.mul_assoc, Int.mul_comm (2 ^ m)]
  have e2 : y / 2 ^ m * 2 ^ m = 2 ^ m * (y / 2 ^ m) := Int.mul_comm _ _
  omega
theorem mod_div2 (x : Int) (a b : Nat) : x % 2 ^ (a + b) / 2 ^ a = x / 2 ^ a % 2 ^ b := by
  have h := join2 x b a
  have h1 := Int.emod_nonneg x (Int.ne_of_gt (pow_pos' a))
  have h2 := Int.emod_lt_of_pos x (pow_pos' a)
  rw [Nat.add_comm a b, ← h, Int.add_comm, Int.add_mul_ediv_right _ _ (Int.ne_of_gt (pow_pos' a)), Int.ediv_eq_zero_of_lt h1 h2]
  omega
/-- parts of a number that is put together -/
theorem cat_div {a b : Int} {m lo : Nat} (h : m ≤ lo) : (a * 2 ^ m + b % 2 ^ m) / 2 ^ lo = a / 2 ^ (lo - m) := by
  have e : lo = m + (lo - m) := by omega
  rw [e, ← div_div2]
  have h1 := Int.emod_nonneg b (Int.ne_of_gt (pow_pos' m))
  have h2 := Int.emod_lt_of_pos b (pow_pos' m)
  rw [Int.add_comm, Int.add_mul_ediv_right _ _ (Int.ne_of_gt (pow_pos' m)), Int.ediv_eq_zero_of_lt h1 h2, Int.zero_add]
  congr 2; omega
theorem cat_mod {a b : Int} {m n : Nat} (h : n ≤ m) : (a * 2 ^ m + b % 2 ^ m) % 2 ^ n = b % 2 ^ n := by
  have e : m = (m - n) + n := by omega
  have e2 : a * 2 ^ m = a * 2 ^ (m - n) * 2 ^ n := by rw [Int.mul_assoc, ← Int.pow_add, ← e]
  rw [e2, Int.add_comm, Int.add_mul_emod_self_right, mod_mod2 _ h]
theorem cat_low {a b : Int} {m lo n : Nat} (h : lo + n ≤ m) : (a * 2 ^ m + b % 2 ^ m) / 2 ^ lo % 2 ^ n = b / 2 ^ lo % 2 ^ n := by
  rw [← mod_div2, cat_mod h, mod_div2]
theorem cat_mid {a b : Int} {m lo n : Nat} (h1 : lo < m) (h2 : m < lo + n) : (a * 2 ^ m + b % 2 ^ m) / 2 ^ lo % 2 ^ n = (a % 2 ^ (n - (m - lo))) * 2 ^ (m - lo) + b / 2 ^ lo % 2 ^ (m - lo) := by
  have e : n = (n - (m - lo)) + (m - lo) := by omega
  rw [e, ← join2 ((a * 2 ^ m + b % 2 ^ m) / 2 ^ lo), div_div2, cat_div (by omega), cat_low (by omega)]
  have e3 : lo + (m - lo) - m = 0 := by omega
  have e4 : n - (m - lo) + (m - lo) - (m - lo) = n - (m - lo) := by omega
  rw [e3, e4]
  simp
theorem ipow_le {a b : Nat} (h : a ≤ b) : (2 : Int) ^ a ≤ 2 ^ b := by
  rw [← p2_eq, ← p2_eq]
  exact Int.ofNat_le.2 (Nat.pow_le_pow_right (by decide) h)
theorem small_div {x : Int} {k lo : Nat} (h0 : 0 ≤ x) (h1 : x < 2 ^ k) (h : k ≤ lo) : x / 2 ^ lo = 0 :=
  Int.ediv_eq_zero_of_lt h0 (Int.lt_of_lt_of_le h1 (ipow_le h))
theorem small_mod {x : Int} {k n : Nat} (h0 : 0 ≤ x) (h1 : x < 2 ^ k) (h : k ≤ n) : x % 2 ^ n = x :=
  Int.emod_eq_of_lt h0 (Int.lt_of_lt_of_le h1 (ipow_le h))
theorem small_part {x : Int} {k lo : Nat} (h0 : 0 ≤ x) (h1 : x < 2 ^ k) (h : lo ≤ k) : 0 ≤ x / 2 ^ lo ∧ x / 2 ^ lo < 2 ^ (k - lo) := by
  refine ⟨Int.ediv_nonneg h0 (Int.le_of_lt (pow_pos' lo)), ?_⟩
  refine Int.ediv_lt_of_lt_mul (pow_pos' lo) ?_
  rw [← Int.pow_add]
  have : k - lo + lo = k := by omega
  rw [this]; exact h1
theorem shr_int (n : Nat) (a : SE) : (SE.un (.shr n) a).int ρ = a.int ρ / 2 ^ n := Int.fdiv_eq_ediv_of_nonneg _ (Int.le_of_lt (pow_pos' n))
theorem bits_int (lo n : Nat) (a : SE) : (SE.un (.bits lo n) a).int ρ = a.int ρ / 2 ^ lo % 2 ^ n := rfl
theorem cat_int (m : Nat) (a b : SE) : (SE.bin (.cat m) a b).int ρ = a.int ρ * 2 ^ m + b.int ρ % 2 ^ m := rfl
theorem bitsAt_ok (ok : PcOk ρ pc) (lo n : Nat) (e : SE) : (bitsAt pc lo n e).int ρ = e.int ρ / 2 ^ lo % 2 ^ n := by
  unfold bitsAt
  split
  · rename_i k hk
    obtain ⟨h0, h1⟩ := lenR_ok ok hk
    split
    · rename_i h2
      have h2 := Nat.le_of_ble_eq_true h2
      show (0 : Int) = _
      rw [small_div h0 h1 h2]; simp
    · rename_i h2
      have h2 : lo < k := by
        cases Nat.lt_or_ge lo k with
        | inl h => exact h
        | inr h => rw [Nat.ble_eq_true_of_le h] at h2; cases h2
      split
      · rename_i h3
        have h3 := Nat.le_of_ble_eq_true h3
        split
        · rename_i h4
          have h4 := Nat.eq_of_beq_eq_true h4
          subst h4
          rw [show (2 : Int) ^ 0 = 1 from rfl, Int.ediv_one, small_mod h0 h1 (by omega)]
        · obtain ⟨g0, g1⟩ := small_part h0 h1 (Nat.le_of_lt h2)
          show e.int ρ / 2 ^ lo % 2 ^ (k - lo) = _
          rw [small_mod g0 g1 (Nat.le_refl _), small_mod g0 g1 (by omega)]
      · rfl
  · rfl
theorem glue_ok (ok : PcOk ρ pc) {m : Nat} {a : SE} {l' m' : Nat} {x e : SE} (h : glue pc m a l' m' x = some e) : e.int ρ = a.int ρ * 2 ^ m + (x.int ρ / 2 ^ l' % 2 ^ m') % 2 ^ m := by
  unfold glue at h
  split at h
  · cases h
  · rename_i hm
    have hm := Nat.eq_of_beq_eq_true hm
    subst hm
    rw [mod_mod2 _ (Nat.le_refl _)]
    split at h
    · rename_i o y
      split at h
      · rename_i l k
        split at h
        · rename_i hl
          have hl := Nat.eq_of_beq_eq_true hl
          subst hl
          split at h
          · rename_i hs
            have hs := SE.same_eq hs
            subst hs
            cases h
            rw [bitsAt_ok ok, bits_int, ← div_div2, join2]
          · cases h
        · cases h
      · rename_i k
        split at h
        · rename_i hl
          simp only [Bool.and_eq_true] at hl
          have h1 := Nat.eq_of_beq_eq_true hl.1
          have h2 := Nat.eq_of_beq_eq_true hl.2
          subst h1; subst h2
          split at h
          · rename_i hs
            have hs := SE.same_eq hs
            subst hs
            cases h
            rw [shr_int, show (2 : Int) ^ 0 = 1 from rfl, Int.ediv_one, Int.mul_comm]
            exact (Int.mul_ediv_add_emod _ _).symm
          · cases h
        · cases h
      · cases h
    · rename_i o a1 b1
      split at h
      · rename_i k l k' y
        split at h
        · rename_i hl
          simp only [Bool.and_eq_true] at hl
          have h1 := Nat.eq_of_beq_eq_true hl.1
          have h2 := Nat.eq_of_beq_eq_true hl.2
          subst h1; subst h2
          split at h
          · rename_i hs
            have hs := SE.same_eq hs
            subst hs
            cases h
            rw [cat_int, cat_int, bits_int, bits_int, mod_mod2 _ (Nat.le_refl _), mod_mod2 _ (Nat.le_refl _), ← div_div2, ← join2 (y.int ρ / 2 ^ l'), Int.pow_add, Int.add_mul, Int.mul_assoc, Int.add_assoc]
          · cases h
        · cases h
      · cases h
    · cases h
theorem catAt_ok (ok : PcOk ρ pc) (m : Nat) (a b : SE) : (catAt pc m a b).int ρ = a.int ρ * 2 ^ m + b.int ρ % 2 ^ m := by
  have low0 : ∀ {z : Int} {b : SE}, (intSame z 0 && low (bnd pc b) m) = true → b.int ρ = (SE.lit z).int ρ * 2 ^ m + b.int ρ % 2 ^ m := by
    intro z b h
    simp only [Bool.and_eq_true] at h
    obtain ⟨g0, g1⟩ := low_ok ok h.2
    have := intSame_eq h.1
    subst this
    rw [small_mod g0 g1 (Nat.le_refl _)]
    show _ = 0 * _ + _
    simp
  unfold catAt
  split
  · rename_i y
    split
    · rename_i x
      show x * p2 m + y % p2 m = x * 2 ^ m + y % 2 ^ m
      rw [p2_eq]
    · rename_i o a1 b1
      split
      · rename_i k x
        rw [cat_int, cat_int]
        show _ + ((x % p2 k) * p2 m + y % p2 m) % 2 ^ (k + m) = (_ + x % 2 ^ k) * 2 ^ m + y % 2 ^ m
        rw [p2_eq, p2_eq]
        have h1 := Int.emod_nonneg x (Int.ne_of_gt (pow_pos' k))
        have h2 := Int.emod_lt_of_pos x (pow_pos' k)
        have h3 := Int.emod_nonneg y (Int.ne_of_gt (pow_pos' m))
        have h4 := Int.emod_lt_of_pos y (pow_pos' m)
        have h5 : (x % 2 ^ k + 1) * 2 ^ m ≤ 2 ^ k * 2 ^ m := Int.mul_le_mul_of_nonneg_right (by omega) (Int.le_of_lt (pow_pos' m))
        have h6 : 0 ≤ x % 2 ^ k * 2 ^ m := Int.mul_nonneg h1 (Int.le_of_lt (pow_pos' m))
        rw [Int.add_mul, Int.one_mul, ← Int.pow_add] at h5
        rw [Int.emod_eq_of_lt (by omega) (by omega), Int.pow_add, Int.add_mul, Int.mul_assoc, Int.add_assoc]
      · rfl
    · rfl
  · split
    · rename_i e he
      rw [glue_ok ok he, bits_int]
    · split
      · split
        · rename_i h; exact low0 h
        · rfl
      · rfl
  · split
    · split
      · rename_i h; exact low0 h
      · rfl
    · rfl
theorem cat_cat (a b1 c : Int) {k m : Nat} (h : k ≤ m) : (a * 2 ^ (m - k) + b1 % 2 ^ (m - k)) * 2 ^ k + c % 2 ^ k = a * 2 ^ m + (b1 * 2 ^ k + c % 2 ^ k) % 2 ^ m := by
  have e : m = (m - k) + k := by omega
  have h2 : (b1 * 2 ^ k + c % 2 ^ k) % 2 ^ m = b1 % 2 ^ (m - k) * 2 ^ k + c % 2 ^ k := by
    have := join2 (b1 * 2 ^ k + c % 2 ^ k) (m - k) k
    rw [cat_div (Nat.le_refl _), cat_mod (Nat.le_refl _), Nat.sub_self, show (2 : Int) ^ 0 = 1 from rfl, Int.ediv_one] at this
    rw [e, ← this]
    have e4 : m - k + k - k = m - k := by omega
    rw [e4]
  rw [h2, Int.add_mul, Int.mul_assoc, ← Int.pow_add, ← e, Int.add_assoc]
theorem mkCat_ok (ok : PcOk ρ pc) : ∀ (b : SE) (m : Nat) (a : SE), (mkCat pc m a b).int ρ = a.int ρ * 2 ^ m + b.int ρ % 2 ^ m := by
  intro b
  induction b with
  | bin o b1 b2 ih1 _ =>
    intro m a
    unfold mkCat
    cases o with
    | cat k =>
      simp only []
      split
      · rename_i hk
        have hk := Nat.le_of_ble_eq_true hk
        rw [catAt_ok ok, ih1, cat_int, cat_cat _ _ _ hk]
      · exact catAt_ok ok _ _ _
    | _ => exact catAt_ok ok _ _ _
  | _ => intro m a; exact catAt_ok ok _ _ _
theorem divs_ok {n : Nat} {c : Int} (h : divs n c = true) : ∃ d, c = 2 ^ n * d := by
  have := intSame_eq h
  rw [p2_eq] at this
  exact Int.dvd_of_emod_eq_zero this
theorem mod_add_mul {x d : Int} {n : Nat} : (x + 2 ^ n * d) % 2 ^ n = x % 2 ^ n := by simp
theorem tmod_mod {x d : Int} {n : Nat} : x.tmod (2 ^ n * d) % 2 ^ n = x % 2 ^ n := by
  have := Int.tmod_def x (2 ^ n * d)
  rw [this, Int.mul_assoc, Int.sub_eq_add_neg, ← Int.mul_neg]
  simp
theorem not_ble {a b : Nat} (h : Nat.ble a b = false) : b < a := by
  cases Nat.lt_or_ge b a with
  | inl q => exact q
  | inr q => rw [Nat.ble_eq_true_of_le q] at h; cases h
theorem mul_cat (a : Int) (k : Nat) : a * 2 ^ k = a * 2 ^ k + (0 : Int) % 2 ^ k := by simp
theorem sextV_mod (n : Nat) (x : Int) : sextV n x % 2 ^ n = x % 2 ^ n := by
  unfold sextV
  split
  · rw [mod_mod2 _ (Nat.le_refl _)]
  · rw [Int.sub_emod_right, mod_mod2 _ (Nat.le_refl _)]
theorem wrap_mod (k : IntKind) (x : Int) : k.wrap x % 2 ^ k.bits = x % 2 ^ k.bits := by
  cases k <;> simp [IntKind.wrap, IntKind.signed, IntKind.bits] <;> omega
theorem part_of_mod {x y : Int} {n lo m : Nat} (h : x % 2 ^ n = y % 2 ^ n) (hl : lo + m ≤ n) : x / 2 ^ lo % 2 ^ m = y / 2 ^ lo % 2 ^ m := by
  rw [← mod_div2, ← mod_div2, ← mod_mod2 x hl, ← mod_mod2 y hl, h]
theorem mkBits_ok (ok : PcOk ρ pc) : ∀ (e : SE) (lo n : Nat), (mkBits pc lo n e).int ρ = e.int ρ / 2 ^ lo % 2 ^ n := by
  intro e
  induction e with
  | lit x => intro lo n; show x / p2 lo % p2 n = x / 2 ^ lo % 2 ^ n; rw [p2_eq, p2_eq]
  | ite c a b ihc iha ihb =>
    intro lo n
    show (if c.tru ρ then (mkBits pc lo n a).int ρ else (mkBits pc lo n b).int ρ) = (if c.tru ρ then a.int ρ else b.int ρ) / 2 ^ lo % 2 ^ n
    rw [iha, ihb]
    split <;> rfl
  | un o a ih =>
    intro lo n
    unfold mkBits
    cases o with
    | bits l m =>
      simp only []
      split
      · rename_i h
        have h := Nat.le_of_ble_eq_true h
        rw [bits_int, bits_int]
        have e : l + lo = l + lo := rfl
        rw [← div_div2, ← mod_div2, ← mod_div2 _ lo n, mod_mod2 _ h]
      · rename_i h
        have h := not_ble h
        split
        · rename_i h2
          have h2 := Nat.le_of_ble_eq_true h2
          show (0 : Int) = _
          rw [bits_int]
          have g0 := Int.emod_nonneg (a.int ρ / 2 ^ l) (Int.ne_of_gt (pow_pos' m))
          have g1 := Int.emod_lt_of_pos (a.int ρ / 2 ^ l) (pow_pos' m)
          rw [small_div g0 g1 h2]; simp
        · rename_i h2
          have h2 := not_ble h2
          rw [bits_int, bits_int, ← div_div2]
          have g0 := Int.emod_nonneg (a.int ρ / 2 ^ l) (Int.ne_of_gt (pow_pos' m))
          have g1 := Int.emod_lt_of_pos (a.int ρ / 2 ^ l) (pow_pos' m)
          obtain ⟨q0, q1⟩ := small_part g0 g1 (Nat.le_of_lt h2)
          rw [small_mod q0 q1 (by omega), ← mod_div2]
          have : lo + (m - lo) = m := by omega
          rw [this]
    | shr m => simp only []; rw [ih, shr_int, div_div2, Nat.add_comm]
    | wrap k =>
      simp only []
      split
      · rename_i h
        have h := Nat.le_of_ble_eq_true h
        rw [ih]
        exact part_of_mod (wrap_mod k (a.int ρ)).symm h
      · exact bitsAt_ok ok _ _ _
    | sext m =>
      simp only []
      split
      · rename_i h
        have h := Nat.le_of_ble_eq_true h
        rw [ih]
        exact part_of_mod (sextV_mod m (a.int ρ)).symm h
      · exact bitsAt_ok ok _ _ _
    | _ => exact bitsAt_ok ok _ _ _
  | bin o a b iha ihb =>
    intro lo n
    unfold mkBits
    cases o with
    | cat m =>
      simp only []
      split
      · rename_i h
        have h := Nat.le_of_ble_eq_true h
        rw [iha, cat_int, cat_div h]
      · rename_i h
        have h := not_ble h
        split
        · rename_i h2
          have h2 := Nat.le_of_ble_eq_true h2
          rw [ihb, cat_int, cat_low h2]
        · rename_i h2
          have h2 := not_ble h2
          rw [mkCat_ok ok, iha, ihb, cat_int, cat_mid h h2, show (2 : Int) ^ 0 = 1 from rfl, Int.ediv_one, mod_mod2 _ (Nat.le_refl _)]
    | mul =>
      simp only []
      split
      · rename_i c
        split
        · rename_i k hk
          have hk := logI_ok hk
          subst hk
          have em : (SE.bin .mul a (.lit (2 ^ k))).int ρ = a.int ρ * 2 ^ k + (0 : Int) % 2 ^ k := mul_cat _ _
          split
          · rename_i h
            have h := Nat.le_of_ble_eq_true h
            rw [iha, em, cat_div h]
          · rename_i h
            have h := not_ble h
            split
            · rename_i h2
              have h2 := Nat.le_of_ble_eq_true h2
              rw [em, cat_low h2]
              show (0 : Int) = 0 / 2 ^ lo % 2 ^ n
              simp
            · rename_i h2
              have h2 := not_ble h2
              rw [catAt_ok ok, iha, em, cat_mid h h2, show (2 : Int) ^ 0 = 1 from rfl, Int.ediv_one]
              show _ + (0 : Int) % _ = _ + 0 / 2 ^ lo % _
              simp
        · exact bitsAt_ok ok _ _ _
      · exact bitsAt_ok ok _ _ _
    | add =>
      simp only []
      split
      · rename_i c
        split
        · rename_i h
          obtain ⟨d, rfl⟩ := divs_ok h
          rw [iha]
          refine part_of_mod (n := lo + n) ?_ (Nat.le_refl _)
          exact mod_add_mul.symm
        · exact bitsAt_ok ok _ _ _
      · exact bitsAt_ok ok _ _ _
    | rem =>
      simp only []
      split
      · rename_i c
        split
        · rename_i h
          obtain ⟨d, rfl⟩ := divs_ok h
          rw [iha]
          refine part_of_mod (n := lo + n) ?_ (Nat.le_refl _)
          exact tmod_mod.symm
        · exact bitsAt_ok ok _ _ _
      · exact bitsAt_ok ok _ _ _
    | _ => exact bitsAt_ok ok _ _ _
  | _ => intro lo n; exact bitsAt_ok ok _ _ _
theorem shrAt_ok (ok : PcOk ρ pc) (m : Nat) (e : SE) : (shrAt pc m e).int ρ = e.int ρ / 2 ^ m := by
  unfold shrAt
  split
  · rename_i k hk
    obtain ⟨h0, h1⟩ := lenR_ok ok hk
    split
    · rename_i h2
      have h2 := Nat.le_of_ble_eq_true h2
      show (0 : Int) = _
      rw [small_div h0 h1 h2]
    · rename_i h2
      have h2 := not_ble h2
      obtain ⟨g0, g1⟩ := small_part h0 h1 (Nat.le_of_lt h2)
      rw [bits_int, small_mod g0 g1 (Nat.le_refl _)]
  · exact shr_int _ _
theorem mkShr_ok (ok : PcOk ρ pc) : ∀ (e : SE) (m : Nat), (mkShr pc m e).int ρ = e.int ρ / 2 ^ m := by
  intro e
  induction e with
  | lit x => intro m; show x / p2 m = x / 2 ^ m; rw [p2_eq]
  | un o a ih =>
    intro m
    unfold mkShr
    cases o with
    | shr k => simp only []; rw [shr_int, shr_int, div_div2]
    | bits l n =>
      simp only []
      split
      · rename_i h
        have h := Nat.le_of_ble_eq_true h
        show (0 : Int) = _
        rw [bits_int]
        rw [small_div (Int.emod_nonneg _ (Int.ne_of_gt (pow_pos' n))) (Int.emod_lt_of_pos _ (pow_pos' n)) h]
      · rename_i h
        have h := not_ble h
        rw [bits_int, bits_int, ← div_div2, ← mod_div2]
        have : m + (n - m) = n := by omega
        rw [this]
    | _ => exact shrAt_ok ok _ _
  | bin o a b iha ihb =>
    intro m
    unfold mkShr
    cases o with
    | cat k =>
      simp only []
      split
      · rename_i h
        have h := Nat.le_of_ble_eq_true h
        rw [iha, cat_int, cat_div h]
      · rename_i h
        have h := not_ble h
        rw [mkCat_ok ok, mkBits_ok ok, cat_int, mod_mod2 _ (Nat.le_refl _)]
        have e1 : k = (k - m) + m := by omega
        have e2 : a.int ρ * 2 ^ k = a.int ρ * 2 ^ (k - m) * 2 ^ m := by rw [Int.mul_assoc, ← Int.pow_add, ← e1]
        rw [e2, Int.add_comm, Int.add_comm (_ * _) (b.int ρ % _), Int.add_mul_ediv_right _ _ (Int.ne_of_gt (pow_pos' m)), ← mod_div2]
        have : m + (k - m) = k := by omega
        rw [this]
    | _ => exact shrAt_ok ok _ _
  | _ => intro m; exact shrAt_ok ok _ _
theorem sextV_id {n : Nat} {x : Int} (hn : 1 ≤ n) (h1 : - 2 ^ (n - 1) ≤ x) (h2 : x < 2 ^ (n - 1)) : sextV n x = x := by
  have e : (2 : Int) ^ n = 2 * 2 ^ (n - 1) := by
    obtain ⟨k, rfl⟩ : ∃ k, n = k + 1 := ⟨n - 1, by omega⟩
    rw [Nat.add_sub_cancel, Int.pow_succ, Int.mul_comm]
  unfold sextV
  rw [e]
  generalize (2 : Int) ^ (n - 1) = P at *
  by_cases h : 0 ≤ x
  · rw [Int.emod_eq_of_lt h (by omega), if_pos (by omega)]
  · have : x % (2 * P) = x + 2 * P := by
      have := Int.add_emod_right x (2 * P)
      rw [← this, Int.emod_eq_of_lt (by omega) (by omega)]
    rw [this, if_neg (by omega)]; omega
theorem sextV_shr {lo n : Nat} {x : Int} (hn : 1 ≤ n) (h1 : - 2 ^ (lo + n - 1) ≤ x) (h2 : x < 2 ^ (lo + n - 1)) : sextV n (x / 2 ^ lo % 2 ^ n) = x / 2 ^ lo := by
  have e : sextV n (x / 2 ^ lo % 2 ^ n) = sextV n (x / 2 ^ lo) := by unfold sextV; rw [mod_mod2 _ (Nat.le_refl _)]
  have e1 : lo + n - 1 = (n - 1) + lo := by omega
  rw [e1, Int.pow_add] at h1 h2
  rw [e]
  refine sextV_id hn ?_ ?_
  · refine Int.le_ediv_of_mul_le (pow_pos' lo) ?_
    rw [Int.neg_mul]; exact h1
  · exact Int.ediv_lt_of_lt_mul (pow_pos' lo) h2
theorem sext_int (n : Nat) (a : SE) : (SE.un (.sext n) a).int ρ = sextV n (a.int ρ) := rfl
theorem mkSext_ok (ok : PcOk ρ pc) (n : Nat) (e : SE) : (mkSext pc n e).int ρ = sextV n (e.int ρ) := by
  unfold mkSext
  split
  · rfl
  · rename_i lo m a
    split
    · rename_i hm
      have hm := Nat.eq_of_beq_eq_true hm
      subst hm
      split
      · rename_i hs
        obtain ⟨h1, h2⟩ := sgnd_ok ok hs
        split
        · rename_i hn
          have hn := Nat.le_of_ble_eq_true hn
          split
          · rename_i hl
            have hl := Nat.eq_of_beq_eq_true hl
            subst hl
            rw [bits_int, sextV_shr hn h1 h2, show (2 : Int) ^ 0 = 1 from rfl, Int.ediv_one]
          · rw [mkShr_ok ok, bits_int, sextV_shr hn h1 h2]
        · rfl
      · rfl
    · rfl
  · split
    · rename_i hs
      obtain ⟨h1, h2⟩ := sgnd_ok ok hs
      split
      · rename_i hn; exact (sextV_id (Nat.le_of_ble_eq_true hn) h1 h2).symm
      · rfl
    · rfl
end
end Go.Proofs.Ytopfaapcekiojaa.Sym
