/- What the terms made smaller stand for: truths, comparing, sums. -/
import Derived.Test.YtopfaapcekiojaaSymN
namespace Go.Proofs.Ytopfaapcekiojaa.Sym
open Go Go.RowKit Go.Proofs.Ytopfaapcekiojaa

/-! ### words of bits -/
theorem W_lt (x : Int) : W x < 2 ^ 64 := by unfold W; omega
theorem W_mod (x : Int) {n : Nat} (h : n ≤ 64) : ((W x % 2 ^ n : Nat) : Int) = x % 2 ^ n := by
  unfold W
  have h0 : 0 ≤ x % 18446744073709551616 := by omega
  rw [Int.natCast_emod, Int.toNat_of_nonneg h0]
  have := mod_mod2 x h
  simpa using this
theorem W_small {x : Int} {n : Nat} (h0 : 0 ≤ x) (h1 : x < 2 ^ n) (h : n ≤ 64) : ((W x : Nat) : Int) = x ∧ W x < 2 ^ n := by
  have e : ((W x : Nat) : Int) = x := by
    unfold W
    rw [Int.toNat_of_nonneg (by omega)]
    have := small_mod h0 h1 h
    simpa using this
  refine ⟨e, ?_⟩
  have e2 : (2 : Int) ^ n = ((2 ^ n : Nat) : Int) := by simp
  rw [e2] at h1
  omega
theorem W_bits (x : Int) {l n : Nat} (h : l + n ≤ 64) : W (x / 2 ^ l % 2 ^ n) = W x / 2 ^ l % 2 ^ n := by
  have g0 := Int.emod_nonneg (x / 2 ^ l) (Int.ne_of_gt (pow_pos' n))
  have g1 := Int.emod_lt_of_pos (x / 2 ^ l) (pow_pos' n)
  have e1 := (W_small g0 g1 (by omega)).1
  have e2 : ((W x / 2 ^ l % 2 ^ n : Nat) : Int) = x / 2 ^ l % 2 ^ n := by
    rw [Int.natCast_emod, Int.natCast_ediv]
    have : ((W x : Nat) : Int) % 2 ^ (l + n) = x % 2 ^ (l + n) := by
      have := W_mod x h
      rw [Int.natCast_emod] at this
      simpa using this
    have := part_of_mod (lo := l) (m := n) this (Nat.le_refl _)
    simpa using this
  omega
theorem land_mod {w m n : Nat} (h : w < 2 ^ n) : w &&& m = w &&& (m % 2 ^ n) := by
  apply Nat.eq_of_testBit_eq
  intro i
  rw [Nat.testBit_and, Nat.testBit_and, Nat.testBit_mod_two_pow]
  by_cases hi : i < n
  · simp [hi]
  · have : w.testBit i = false := Nat.testBit_lt_two_pow (Nat.lt_of_lt_of_le h (Nat.pow_le_pow_right (by decide) (Nat.le_of_not_lt hi)))
    simp [this]
theorem land_mod' {w m n : Nat} (h : m < 2 ^ n) : w &&& m = (w % 2 ^ n) &&& m := by
  rw [Nat.and_comm, land_mod h, Nat.and_comm]
theorem land_shift (u m l n : Nat) : u &&& (m % 2 ^ n * 2 ^ l) = (u / 2 ^ l % 2 ^ n &&& m) * 2 ^ l := by
  apply Nat.eq_of_testBit_eq
  intro i
  rw [Nat.testBit_and, Nat.testBit_mul_two_pow, Nat.testBit_mul_two_pow, Nat.testBit_and, Nat.testBit_mod_two_pow, Nat.testBit_mod_two_pow, Nat.testBit_div_two_pow]
  by_cases h : l ≤ i
  · have e : i - l + l = i := by omega
    have e2 : l + (i - l) = i := by omega
    simp only [h, decide_true, Bool.true_and, e]
    cases u.testBit i <;> cases decide (i - l < n) <;> simp
  · simp [h]
theorem and_div (u m k : Nat) : (u &&& m) / 2 ^ k = u / 2 ^ k &&& m / 2 ^ k := by
  apply Nat.eq_of_testBit_eq
  intro i
  simp only [Nat.testBit_div_two_pow, Nat.testBit_and]
theorem and_mod (u m k : Nat) : (u &&& m) % 2 ^ k = u % 2 ^ k &&& m % 2 ^ k := by
  apply Nat.eq_of_testBit_eq
  intro i
  simp only [Nat.testBit_mod_two_pow, Nat.testBit_and]
  cases decide (i < k) <;> simp
theorem and_split (u m v k : Nat) : (u &&& m == v) = ((u / 2 ^ k &&& m / 2 ^ k == v / 2 ^ k) && (u % 2 ^ k &&& m % 2 ^ k == v % 2 ^ k)) := by
  rw [← and_div, ← and_mod]
  generalize u &&& m = x
  have h1 := Nat.div_add_mod x (2 ^ k)
  have h2 := Nat.div_add_mod v (2 ^ k)
  cases h : x == v
  · have h : x ≠ v := by simpa using h
    symm
    rw [Bool.and_eq_false_iff]
    by_cases e : x / 2 ^ k = v / 2 ^ k
    · right
      have : x % 2 ^ k ≠ v % 2 ^ k := fun q => h (by rw [← h1, ← h2, e, q])
      simpa using this
    · left; simpa using e
  · have h : x = v := by simpa using h
    subst h
    simp
theorem mtV_same {x y : Int} {m v n : Nat} (h : x % 2 ^ n = y % 2 ^ n) (hn : n ≤ 64) (hm : m < 2 ^ n) : mtV m v x = mtV m v y := by
  rw [mtV_eq, mtV_eq, land_mod' hm, land_mod' (w := W y) hm]
  have h1 := W_mod x hn
  have h2 := W_mod y hn
  have : W x % 2 ^ n = W y % 2 ^ n := by omega
  rw [this]
theorem mtV_bits (x : Int) {m v l n : Nat} (h : l + n ≤ 64) : mtV (m % 2 ^ n * 2 ^ l) (v * 2 ^ l) x = mtV m v (x / 2 ^ l % 2 ^ n) := by
  rw [mtV_eq, mtV_eq, land_shift, W_bits x h]
  generalize W x / 2 ^ l % 2 ^ n &&& m = u
  have hp := Nat.two_pow_pos l
  cases e : u == v
  · have e : u ≠ v := by simpa using e
    have : u * 2 ^ l ≠ v * 2 ^ l := fun q => e (Nat.eq_of_mul_eq_mul_right hp q)
    simpa using this
  · have e : u = v := by simpa using e
    subst e; simp
theorem mtV_big {x : Int} {m v n : Nat} (hx : W x < 2 ^ n) (hv : 2 ^ n ≤ v) : mtV m v x = false := by
  rw [mtV_eq]
  have : W x &&& m ≤ W x := Nat.and_le_left
  have : W x &&& m ≠ v := by omega
  simpa using this
theorem mtV_cat (a b : Int) {m v k : Nat} (hk : k ≤ 64) : mtV m v (a * 2 ^ k + b % 2 ^ k) = (mtV (m % 18446744073709551616 / 2 ^ k) (v / 2 ^ k) a && mtV (m % 2 ^ k) (v % 2 ^ k) b) := by
  rw [mtV_eq, mtV_eq, mtV_eq, land_mod (W_lt _), and_split _ _ _ k]
  have e1 : W (a * 2 ^ k + b % 2 ^ k) % 2 ^ k = W b % 2 ^ k := by
    have h1 := W_mod (a * 2 ^ k + b % 2 ^ k) hk
    have h2 := W_mod b hk
    rw [cat_mod (Nat.le_refl _)] at h1
    omega
  have e2 : W (a * 2 ^ k + b % 2 ^ k) / 2 ^ k = W a % 2 ^ (64 - k) := by
    have h1 : ((W (a * 2 ^ k + b % 2 ^ k) / 2 ^ k : Nat) : Int) = a % 2 ^ (64 - k) := by
      rw [Int.natCast_ediv]
      have : ((W (a * 2 ^ k + b % 2 ^ k) : Nat) : Int) = (a * 2 ^ k + b % 2 ^ k) % 2 ^ (k + (64 - k)) := by
        have e : k + (64 - k) = 64 := by omega
        rw [e]
        unfold W
        rw [Int.toNat_of_nonneg (by omega)]
        rfl
      rw [this]
      have := mod_div2 (a * 2 ^ k + b % 2 ^ k) k (64 - k)
      rw [cat_div (Nat.le_refl _), Nat.sub_self, show (2 : Int) ^ 0 = 1 from rfl, Int.ediv_one] at this
      simpa using this
    have h2 := W_mod a (n := 64 - k) (by omega)
    omega
  have hm : m % 2 ^ 64 / 2 ^ k < 2 ^ (64 - k) := by
    refine Nat.div_lt_of_lt_mul ?_
    rw [← Nat.pow_add]
    have e : k + (64 - k) = 64 := by omega
    rw [e]
    exact Nat.mod_lt _ (Nat.two_pow_pos _)
  rw [e1, e2, ← land_mod' hm]
  have e3 : m % 2 ^ 64 % 2 ^ k = m % 2 ^ k := Nat.mod_mod_of_dvd _ (Nat.pow_dvd_pow 2 hk)
  rw [e3]
  have e4 : W b % 2 ^ k &&& m % 2 ^ k = W b &&& m % 2 ^ k := (land_mod' (Nat.mod_lt _ (Nat.two_pow_pos _))).symm
  rw [e4]
section
variable {ρ : Env} {pc : PC}
theorem tru_tt : SE.tt.tru ρ = true := rfl
theorem tru_ff : SE.ff.tru ρ = false := rfl
theorem mkNot_ok (a : SE) : (mkNot a).tru ρ = !a.tru ρ := by
  unfold mkNot
  split
  · rfl
  · rfl
  · rename_i a; show a.tru ρ = !(!(a.tru ρ)); simp
  · rfl
theorem mkAnd_ok (a b : SE) : (mkAnd a b).tru ρ = (a.tru ρ && b.tru ρ) := by
  unfold mkAnd
  split
  · simp [tru_tt]
  · simp [tru_ff]
  · split
    · simp [tru_tt]
    · simp [tru_ff]
    · rfl
theorem mkOr_ok (a b : SE) : (mkOr a b).tru ρ = (a.tru ρ || b.tru ρ) := by
  unfold mkOr
  split
  · simp [tru_tt]
  · simp [tru_ff]
  · split
    · simp [tru_tt]
    · simp [tru_ff]
    · rfl
theorem mkBite_ok (c a b : SE) : (mkBite c a b).tru ρ = (if c.tru ρ then a.tru ρ else b.tru ρ) := by
  unfold mkBite
  split
  · simp [tru_tt]
  · simp [tru_ff]
  · split
    · rw [mkOr_ok, tru_tt]; cases c.tru ρ <;> simp
    · rw [mkAnd_ok, tru_ff]; cases c.tru ρ <;> simp
    · rw [mkAnd_ok, mkNot_ok, tru_ff]; cases c.tru ρ <;> simp
    · rw [mkOr_ok, mkNot_ok, tru_tt]; cases c.tru ρ <;> simp
    · split
      · rename_i h; rw [SE.same_eq h]; cases c.tru ρ <;> rfl
      · rfl
theorem mkBeq_ok (a b : SE) : (mkBeq a b).tru ρ = (a.tru ρ == b.tru ρ) := by
  unfold mkBeq
  split
  · rw [tru_tt]; cases b.tru ρ <;> rfl
  · rw [tru_tt]; cases a.tru ρ <;> rfl
  · rw [mkNot_ok, tru_ff]; cases b.tru ρ <;> rfl
  · rw [mkNot_ok, tru_ff]; cases a.tru ρ <;> rfl
  · split
    · rename_i hs; rw [SE.same_eq hs]; symm; show (_ == _) = true; simp
    · rfl
theorem litB_ok (b : Bool) : (litB b).tru ρ = b := by cases b <;> rfl
theorem nbeq (a b : Nat) : Nat.beq a b = (a == b) := by
  rw [Bool.eq_iff_iff, Nat.beq_eq]; simp
theorem ibeq (a b : Nat) : (((a : Nat) : Int) == ((b : Nat) : Int)) = (a == b) := by
  rw [Bool.eq_iff_iff]; simp; omega
theorem bit_of (x : Int) {k : Nat} (hk : k < 64) : (if mtV (2 ^ k) (2 ^ k) x then (1 : Int) else 0) = x / 2 ^ k % 2 ^ 1 := by
  have h := mtV_bits x (m := 1) (v := 1) (l := k) (n := 1) (by omega)
  rw [Nat.one_mul] at h
  rw [h, mtV_eq]
  have g0 := Int.emod_nonneg (x / 2 ^ k) (Int.ne_of_gt (pow_pos' 1))
  have g1 := Int.emod_lt_of_pos (x / 2 ^ k) (pow_pos' 1)
  have g2 := (W_small g0 g1 (by omega)).1
  have g3 : x / 2 ^ k % 2 ^ 1 = 0 ∨ x / 2 ^ k % 2 ^ 1 = 1 := by have : (2 : Int) ^ 1 = 2 := rfl; omega
  rcases g3 with e | e
  · rw [e]; rfl
  · rw [e]; rfl
theorem mkB2i_ok (c : SE) : (mkB2i c).int ρ = if c.tru ρ then 1 else 0 := by
  unfold mkB2i
  split
  · rfl
  · rfl
  · rename_i m v a _
    split
    · rename_i k hk
      split
      · rename_i h
        simp only [Bool.and_eq_true] at h
        have hv := Nat.eq_of_beq_eq_true h.1
        have hk2 : k < 64 := by have := h.2; unfold Nat.blt at this; exact Nat.le_of_ble_eq_true this
        have hm : m = 2 ^ k := by
          have := logI_ok hk
          have e : (2 : Int) ^ k = ((2 ^ k : Nat) : Int) := by simp
          rw [e] at this
          exact Int.ofNat.inj this
        subst hv
        subst hm
        rw [bits_int]
        exact (bit_of (a.int ρ) hk2).symm
      · rfl
    · rfl
  · rfl
theorem iteTwo_ok {c : SE} {x : Int} {d y z e : SE} (h : iteTwo c x d y z = some e) : e.int ρ = if c.tru ρ then x else (if d.tru ρ then y.int ρ else z.int ρ) := by
  have one : ∀ w : SE, (SE.ite (mkOr c d) (.lit x) w).int ρ = if c.tru ρ then x else (if d.tru ρ then x else w.int ρ) := by
    intro w
    show (if (mkOr c d).tru ρ then x else w.int ρ) = _
    rw [mkOr_ok]
    cases c.tru ρ <;> cases d.tru ρ <;> rfl
  have two : ∀ w : SE, (SE.ite (mkOr c (mkNot d)) (.lit x) w).int ρ = if c.tru ρ then x else (if d.tru ρ then w.int ρ else x) := by
    intro w
    show (if (mkOr c (mkNot d)).tru ρ then x else w.int ρ) = _
    rw [mkOr_ok, mkNot_ok]
    cases c.tru ρ <;> cases d.tru ρ <;> rfl
  unfold iteTwo at h
  split at h
  · rename_i n
    split at h
    · rename_i hs
      cases h
      rw [one, ← intSame_eq hs]
      rfl
    · split at h
      · rename_i m
        split at h
        · rename_i hs
          cases h
          rw [two, ← intSame_eq hs]
          rfl
        · cases h
      · cases h
  · split at h
    · rename_i m
      split at h
      · rename_i hs
        cases h
        rw [two, ← intSame_eq hs]
        rfl
      · cases h
    · cases h
theorem iteBut_ok (c a b : SE) : (iteBut c a b).int ρ = if c.tru ρ then a.int ρ else b.int ρ := by
  unfold iteBut
  split
  · rename_i h; rw [SE.same_eq h]; split <;> rfl
  · rfl
theorem mkIte_ok (c a b : SE) : (mkIte c a b).int ρ = if c.tru ρ then a.int ρ else b.int ρ := by
  unfold mkIte
  split
  · rw [tru_tt]; rfl
  · rw [tru_ff]; rfl
  · split
    · rename_i x
      split
      · rename_i y
        split
        · rename_i h
          simp only [Bool.and_eq_true] at h
          rw [mkB2i_ok, intSame_eq h.1, intSame_eq h.2]
          rfl
        · split
          · rename_i h; rw [intSame_eq h]; split <;> rfl
          · rfl
      · split
        · rename_i e he; rw [iteTwo_ok he]; rfl
        · rfl
      · rfl
    · split
      · split
        · rename_i e he
          rw [iteTwo_ok he, mkNot_ok]
          cases c.tru ρ <;> rfl
        · rfl
      · exact iteBut_ok _ _ _
    · exact iteBut_ok _ _ _
theorem mtAt_ok (ok : PcOk ρ pc) (m v : Nat) (e : SE) : (mtAt pc m v e).tru ρ = mtV m v (e.int ρ) := by
  unfold mtAt
  split
  · rename_i h
    rw [Nat.eq_of_beq_eq_true h, litB_ok, mtV_eq, nbeq, Nat.and_zero]
    exact Bool.beq_comm
  · split
    · rename_i h
      show false = _
      rw [mtV_eq]
      symm
      have h : ¬ (v &&& m = v) := by
        have h : Nat.beq (v &&& m) v = false := h
        simpa [nbeq] using h
      have : W (e.int ρ) &&& m ≠ v := fun q => h (by rw [← q, Nat.and_assoc, Nat.and_self])
      simpa using this
    · split
      · rename_i n hn
        obtain ⟨h0, h1⟩ := lenR_ok' ok (fun _ _ hr => rng_ok ok hr) hn
        split
        · rename_i hle
          have hle := Nat.le_of_ble_eq_true hle
          obtain ⟨w1, w2⟩ := W_small h0 h1 hle
          split
          · rename_i hv
            exact (mtV_big w2 (Nat.le_of_ble_eq_true hv)).symm
          · split
            · rename_i hm
              have hm : m % 2 ^ n = 2 ^ n - 1 := Nat.eq_of_beq_eq_true hm
              rw [mtV_eq, land_mod w2, hm, Nat.and_two_pow_sub_one_of_lt_two_pow w2]
              show (e.int ρ == ((v : Nat) : Int)) = _
              rw [← ibeq, w1]
            · split
              · rename_i hm
                have hm : m % 2 ^ n = 0 := Nat.eq_of_beq_eq_true hm
                rw [mtV_eq, land_mod w2, hm, Nat.and_zero, litB_ok, nbeq]
                exact Bool.beq_comm
              · rw [mtV_eq, land_mod w2]
                rfl
        · rfl
      · rfl
theorem mkMt_ok (ok : PcOk ρ pc) : ∀ (e : SE) (m v : Nat), (mkMt pc m v e).tru ρ = mtV m v (e.int ρ) := by
  intro e
  induction e with
  | lit x => intro m v; exact litB_ok _
  | ite c a b ihc iha ihb =>
    intro m v
    show (mkBite c (mkMt pc m v a) (mkMt pc m v b)).tru ρ = mtV m v (if c.tru ρ then a.int ρ else b.int ρ)
    rw [mkBite_ok, iha, ihb]
    split <;> rfl
  | un o a ih =>
    intro m v
    unfold mkMt
    cases o with
    | bits l n =>
      simp only []
      split
      · rename_i h
        have h := Nat.le_of_ble_eq_true h
        split
        · rename_i hv
          have hv := Nat.le_of_ble_eq_true hv
          symm
          rw [bits_int]
          refine mtV_big ?_ hv
          rw [W_bits _ h]
          exact Nat.mod_lt _ (Nat.two_pow_pos _)
        · rw [mtAt_ok ok, bits_int]
          exact mtV_bits _ h
      · exact mtAt_ok ok _ _ _
    | wrap k =>
      simp only []
      split
      · rename_i h
        have h : m < 2 ^ k.bits := by unfold Nat.blt at h; exact Nat.le_of_ble_eq_true h
        rw [ih]
        exact mtV_same (wrap_mod k (a.int ρ)).symm (by cases k <;> decide) h
      · exact mtAt_ok ok _ _ _
    | sext n =>
      simp only []
      split
      · rename_i h
        simp only [Bool.and_eq_true] at h
        have h1 : m < 2 ^ n := by have := h.1; unfold Nat.blt at this; exact Nat.le_of_ble_eq_true this
        rw [ih]
        exact mtV_same (sextV_mod n (a.int ρ)).symm (Nat.le_of_ble_eq_true h.2) h1
      · exact mtAt_ok ok _ _ _
    | b2i =>
      simp only []
      have e1 : (SE.un .b2i a).int ρ = if a.tru ρ then 1 else 0 := rfl
      have w1 : W 1 = 1 := rfl
      have w0 : W 0 = 0 := rfl
      have land1 : 1 &&& m = m % 2 := by rw [Nat.and_comm]; exact Nat.and_one_is_mod m
      split
      · rename_i h
        have h : m % 2 = 0 := Nat.eq_of_beq_eq_true h
        rw [litB_ok, mtV_eq, e1, nbeq]
        cases a.tru ρ
        · show _ = (W 0 &&& m == v); rw [w0, Nat.zero_and]; exact Bool.beq_comm
        · show _ = (W 1 &&& m == v); rw [w1, land1, h]; exact Bool.beq_comm
      · rename_i h
        have h : m % 2 = 1 := by
          have h : Nat.beq (m % 2) 0 = false := h
          have : ¬ (m % 2 = 0) := by simpa [nbeq] using h
          omega
        split
        · rename_i hv
          have hv := Nat.eq_of_beq_eq_true hv
          subst hv
          rw [mtV_eq, e1]
          cases a.tru ρ
          · show _ = (W 0 &&& m == 1); rw [w0, Nat.zero_and]; rfl
          · show _ = (W 1 &&& m == 1); rw [w1, land1, h]; rfl
        · rename_i hv1
          split
          · rename_i hv
            have hv := Nat.eq_of_beq_eq_true hv
            subst hv
            rw [mkNot_ok, mtV_eq, e1]
            cases a.tru ρ
            · show _ = (W 0 &&& m == 0); rw [w0, Nat.zero_and]; rfl
            · show _ = (W 1 &&& m == 0); rw [w1, land1, h]; rfl
          · rename_i hv0
            have n1 : v ≠ 1 := fun q => by subst q; cases hv1
            have n0 : v ≠ 0 := fun q => by subst q; cases hv0
            rw [mtV_eq, e1]
            show false = _
            symm
            cases a.tru ρ
            · show (W 0 &&& m == v) = false
              rw [w0, Nat.zero_and]
              have : (0 : Nat) ≠ v := fun q => n0 q.symm
              simpa using this
            · show (W 1 &&& m == v) = false
              rw [w1, land1, h]
              have : (1 : Nat) ≠ v := fun q => n1 q.symm
              simpa using this
    | _ => exact mtAt_ok ok _ _ _
  | bin o a b iha ihb =>
    intro m v
    unfold mkMt
    cases o with
    | cat k =>
      simp only []
      split
      · rename_i h
        have h := Nat.le_of_ble_eq_true h
        rw [mkAnd_ok, iha, ihb, cat_int]
        exact (mtV_cat _ _ h).symm
      · exact mtAt_ok ok _ _ _
    | _ => exact mtAt_ok ok _ _ _
  | _ => intro m v; exact mtAt_ok ok _ _ _
/-! ### comparing -/
theorem eqInt (n c : Int) : intSame n c = (n == c) := by
  cases hc : intSame n c
  · have := intSame_ne hc; symm; simpa using this
  · rw [intSame_eq hc]; simp
theorem beq_swap (u v : Int) : (u == v) = (v == u) := by
  cases h : v == u
  · have : v ≠ u := by simpa using h
    simpa using fun e : u = v => this e.symm
  · have : v = u := by simpa using h
    simp [this]
theorem bandV_nat (k : IntKind) (x : Int) {m : Nat} (hm : ((m : Nat) : Int) ≤ k.max) : bandV k x (m : Int) = ((W x &&& m : Nat) : Int) := by
  have hk : k.bits ≤ 64 := by cases k <;> decide
  have hmax : k.max < 2 ^ k.bits := by cases k <;> decide
  have hm2 : m < 2 ^ k.bits := by
    have e : (2 : Int) ^ k.bits = ((2 ^ k.bits : Nat) : Int) := by simp
    rw [e] at hmax
    omega
  have e1 : (BitVec.ofInt k.bits x).toNat = W x % 2 ^ k.bits := by
    rw [BitVec.toNat_ofInt]
    have := W_mod x hk
    have e : (x % ((2 ^ k.bits : Nat) : Int)) = ((W x % 2 ^ k.bits : Nat) : Int) := by rw [this]; congr 1
    rw [e]; exact Int.toNat_natCast _
  have e2 : (BitVec.ofInt k.bits (m : Int)).toNat = m := by
    rw [BitVec.toNat_ofInt]
    have : ((m : Nat) : Int) % ((2 ^ k.bits : Nat) : Int) = ((m % 2 ^ k.bits : Nat) : Int) := (Int.natCast_emod _ _).symm
    rw [this, Nat.mod_eq_of_lt hm2]
    simp
  unfold bandV
  rw [BitVec.toNat_and, e1, e2, ← land_mod' hm2]
  refine wrap_id ?_ ?_
  · have : k.min ≤ 0 := by cases k <;> decide
    omega
  · have : W x &&& m ≤ m := Nat.and_le_right
    omega
theorem eqLit_ok (ok : PcOk ρ pc) : ∀ {a : SE} {z : Int} {e : SE}, eqLit pc a z = some e → e.tru ρ = (a.int ρ == z) := by
  intro a
  induction a with
  | lit x => intro z e h; cases h; rw [litB_ok, eqInt]; rfl
  | un o a ih =>
    intro z e h
    unfold eqLit at h
    cases o with
    | b2i =>
      simp only [] at h
      have hc : (SE.un .b2i a).int ρ = if a.tru ρ then 1 else 0 := rfl
      rw [hc]
      split at h
      · rename_i hs
        cases h
        rw [intSame_eq hs]
        cases a.tru ρ <;> rfl
      · rename_i h1
        have h1 := intSame_ne h1
        split at h
        · rename_i hs
          cases h
          rw [intSame_eq hs, mkNot_ok]
          cases a.tru ρ <;> rfl
        · rename_i h0
          have h0 := intSame_ne h0
          cases h
          have e0 : ((0 : Int) == z) = false := by simpa using fun e : (0 : Int) = z => h0 e.symm
          have e1 : ((1 : Int) == z) = false := by simpa using fun e : (1 : Int) = z => h1 e.symm
          cases a.tru ρ
          · exact e0.symm
          · exact e1.symm
    | bits l n =>
      simp only [] at h
      have g0 := Int.emod_nonneg (a.int ρ / 2 ^ l) (Int.ne_of_gt (pow_pos' n))
      have g1 := Int.emod_lt_of_pos (a.int ρ / 2 ^ l) (pow_pos' n)
      rw [bits_int]
      split at h
      · rename_i v
        split at h
        · rename_i hl
          have hl := Nat.le_of_ble_eq_true hl
          obtain ⟨w1, w2⟩ := W_small g0 g1 (by omega)
          split at h
          · rename_i hv
            have hv : 2 ^ n ≤ v := Nat.le_of_ble_eq_true hv
            cases h
            show false = _
            symm
            have : a.int ρ / 2 ^ l % 2 ^ n ≠ Int.ofNat v := by
              rw [← w1]
              intro q
              have := Int.ofNat.inj q
              omega
            simpa using this
          · cases h
            have e1 : (2 ^ n - 1) * 2 ^ l = (2 ^ n - 1) % 2 ^ n * 2 ^ l := by rw [Nat.mod_eq_of_lt (by have := Nat.two_pow_pos n; omega)]
            rw [mtAt_ok ok]
            show mtV ((2 ^ n - 1) * 2 ^ l) (v * 2 ^ l) _ = _
            rw [e1, mtV_bits _ hl, mtV_eq, Nat.and_two_pow_sub_one_of_lt_two_pow w2]
            rw [← ibeq, w1]
            rfl
        · cases h
      · rename_i v hv
        cases h
        show false = _
        symm
        have : a.int ρ / 2 ^ l % 2 ^ n ≠ z := by
          intro q
          cases z with
          | ofNat v => exact hv v rfl
          | negSucc v => have := Int.negSucc_lt_zero v; omega
        simpa using this
    | _ => cases h
  | bin o a b _ _ =>
    intro z e h
    unfold eqLit at h
    split at h
    · rename_i k m v _
      split at h
      · rename_i hm
        have hm := intLe_le hm
        cases h
        rw [mkMt_ok ok, mtV_eq]
        show _ = (bandV k (a.int ρ) ((m : Nat) : Int) == ((v : Nat) : Int))
        rw [bandV_nat k _ hm, ibeq]
      · cases h
    · cases h
  | ite c a b ihc iha ihb =>
    intro z e h
    unfold eqLit at h
    split at h
    · rename_i x y hx hy
      cases h
      rw [mkBite_ok, iha hx, ihb hy]
      show _ = ((if c.tru ρ then a.int ρ else b.int ρ) == z)
      split <;> rfl
    · rename_i x hx hy
      cases h
      rw [mkBite_ok, iha hx]
      show (if c.tru ρ then (a.int ρ == z) else (b.int ρ == z)) = ((if c.tru ρ then a.int ρ else b.int ρ) == z)
      split <;> rfl
    · rename_i y hx hy
      cases h
      rw [mkBite_ok, ihb hy]
      show (if c.tru ρ then (a.int ρ == z) else (b.int ρ == z)) = ((if c.tru ρ then a.int ρ else b.int ρ) == z)
      split <;> rfl
    · cases h
  | _ => intro z e h; cases h
theorem eqQuo_ok {a b e : SE} (h : eqQuo a b = some e) : e.tru ρ = (a.int ρ == b.int ρ) := by
  unfold eqQuo at h
  split at h
  · rename_i x m k
    split at h
    · rename_i hb
      simp only [Bool.and_eq_true] at hb
      cases h
      rw [← intSame_eq hb.1, ← SE.same_eq hb.2]
      show ((x.int ρ).tmod m == 0) = ((x.int ρ).tdiv m * m == x.int ρ)
      have hd := Int.tmod_def (x.int ρ) m
      have hc : m * (x.int ρ).tdiv m = (x.int ρ).tdiv m * m := Int.mul_comm _ _
      by_cases q : (x.int ρ).tmod m = 0
      · have : (x.int ρ).tdiv m * m = x.int ρ := by omega
        rw [q, this]; simp
      · have : (x.int ρ).tdiv m * m ≠ x.int ρ := by omega
        have e1 : ((x.int ρ).tmod m == 0) = false := by simpa using q
        have e2 : ((x.int ρ).tdiv m * m == x.int ρ) = false := by simpa using this
        rw [e1, e2]
    · cases h
  · cases h
/-- what a sum comes to -/
def sumV (ρ : Env) : List (SE × Int) → Int
  | [] => 0
  | (x, c) :: r => c * x.int ρ + sumV ρ r
theorem addT_ok (x : SE) (c : Int) : ∀ l : List (SE × Int), sumV ρ (addT x c l) = c * x.int ρ + sumV ρ l
  | [] => rfl
  | (y, d) :: r => by
    unfold addT
    split
    · rename_i h
      rw [← SE.same_eq h]
      show (c + d) * y.int ρ + sumV ρ r = c * y.int ρ + (d * y.int ρ + sumV ρ r)
      rw [Int.add_mul]; omega
    · show d * y.int ρ + sumV ρ (addT x c r) = c * x.int ρ + (d * y.int ρ + sumV ρ r)
      rw [addT_ok x c r]; omega
theorem wrap64_mod (k : IntKind) (h : k.bits = 64) (x : Int) : ∃ d, k.wrap x = x + 18446744073709551616 * d := by
  have := wrap_mod k x
  rw [h] at this
  have e : (2 : Int) ^ 64 = 18446744073709551616 := rfl
  rw [e] at this
  exact ⟨(k.wrap x - x) / 18446744073709551616, by omega⟩
theorem lin_ok : ∀ (e : SE) (c : Int) (s : List (SE × Int) × Int), ∃ d, sumV ρ (lin c e s).1 + (lin c e s).2 = sumV ρ s.1 + s.2 + c * e.int ρ + 18446744073709551616 * d := by
  intro e
  have base : ∀ (e : SE) (c : Int) (s : List (SE × Int) × Int), ∃ d, sumV ρ (addT e c s.1) + s.2 = sumV ρ s.1 + s.2 + c * e.int ρ + 18446744073709551616 * d := fun e c s => ⟨0, by rw [addT_ok]; omega⟩
  induction e with
  | lit n => intro c s; exact ⟨0, by show sumV ρ s.1 + (s.2 + c * n) = sumV ρ s.1 + s.2 + c * n + _; omega⟩
  | un o a ih =>
    intro c s
    cases o with
    | wrap k =>
      have go : k.bits = 64 → ∃ d, sumV ρ (lin c a s).1 + (lin c a s).2 = sumV ρ s.1 + s.2 + c * (SE.un (.wrap k) a).int ρ + 18446744073709551616 * d := by
        intro hk
        obtain ⟨d, hd⟩ := ih c s
        obtain ⟨d2, hd2⟩ := wrap64_mod k hk (a.int ρ)
        refine ⟨d - c * d2, ?_⟩
        have : (SE.un (.wrap k) a).int ρ = k.wrap (a.int ρ) := rfl
        rw [hd, this, hd2, Int.mul_add, Int.mul_sub]
        have e1 : c * (18446744073709551616 * d2) = 18446744073709551616 * (c * d2) := by rw [Int.mul_left_comm]
        omega
      cases k with
      | i64 => exact go rfl
      | u64 => exact go rfl
      | _ => exact base _ c s
    | _ => exact base _ c s
  | bin o a b iha ihb =>
    intro c s
    cases o with
    | add =>
      obtain ⟨d1, h1⟩ := iha c s
      obtain ⟨d2, h2⟩ := ihb c (lin c a s)
      refine ⟨d1 + d2, ?_⟩
      show sumV ρ (lin c b (lin c a s)).1 + (lin c b (lin c a s)).2 = sumV ρ s.1 + s.2 + c * (a.int ρ + b.int ρ) + _
      rw [h2, h1, Int.mul_add, Int.mul_add]; omega
    | sub =>
      obtain ⟨d1, h1⟩ := iha c s
      obtain ⟨d2, h2⟩ := ihb (-c) (lin c a s)
      refine ⟨d1 + d2, ?_⟩
      show sumV ρ (lin (-c) b (lin c a s)).1 + (lin (-c) b (lin c a s)).2 = sumV ρ s.1 + s.2 + c * (a.int ρ - b.int ρ) + _
      rw [h2, h1, Int.mul_sub, Int.mul_add, Int.neg_mul]; omega
    | mul =>
      cases b with
      | lit m =>
        obtain ⟨d, hd⟩ := iha (c * m) s
        refine ⟨d, ?_⟩
        show sumV ρ (lin (c * m) a s).1 + (lin (c * m) a s).2 = sumV ρ s.1 + s.2 + c * (a.int ρ * m) + _
        rw [hd, Int.mul_assoc, Int.mul_comm m]
      | _ => exact base _ c s
    | _ => exact base _ c s
  | _ => intro c s; exact base _ c s
theorem allZero_ok : ∀ {l : List (SE × Int)}, allZero l = true → ∃ d, sumV ρ l = 18446744073709551616 * d
  | [], _ => ⟨0, rfl⟩
  | (x, c) :: r, h => by
    unfold allZero at h
    split at h
    · rename_i hc
      obtain ⟨d, hd⟩ := allZero_ok h
      have := intSame_eq hc
      obtain ⟨e, he⟩ := Int.dvd_of_emod_eq_zero this
      refine ⟨e * x.int ρ + d, ?_⟩
      show c * x.int ρ + sumV ρ r = _
      rw [hd, he, Int.mul_add, Int.mul_assoc]
    · cases h
theorem eqLin_ok (ok : PcOk ρ pc) {a b e : SE} (h : eqLin pc a b = some e) : e.tru ρ = (a.int ρ == b.int ρ) := by
  unfold eqLin at h
  split at h
  · cases h
  · split at h
    · rename_i h1 h2
      split at h
      · rename_i hw
        simp only [Bool.and_eq_true] at hw
        have w1 := within_ok hw.1
        have w2 := within_ok hw.2
        have b1 := bnd_ok ok h1
        have b2 := bnd_ok ok h2
        have m1 : IntKind.i64.min = -9223372036854775808 := rfl
        have m2 : IntKind.i64.max = 9223372036854775807 := rfl
        split at h
        rename_i s k hs
        split at h
        · rename_i hz
          cases h
          obtain ⟨d1, e1⟩ := lin_ok (ρ := ρ) a 1 ([], 0)
          obtain ⟨d2, e2⟩ := lin_ok (ρ := ρ) b (-1) (lin 1 a ([], 0))
          obtain ⟨d3, e3⟩ := allZero_ok (ρ := ρ) hz
          rw [hs] at e2
          have e4 : sumV ρ ([] : List (SE × Int)) = 0 := rfl
          simp only [e4] at e1
          rw [litB_ok, eqInt]
          simp only [e3] at e2
          by_cases q : k % 18446744073709551616 = 0
          · have : a.int ρ = b.int ρ := by omega
            rw [q, this]; simp
          · have : a.int ρ ≠ b.int ρ := by omega
            have q1 : (k % 18446744073709551616 == 0) = false := by simpa using q
            have q2 : (a.int ρ == b.int ρ) = false := by simpa using this
            rw [q1, q2]
        · cases h
      · cases h
    · cases h
theorem eqFlag_ok (ok : PcOk ρ pc) {a b e : SE} (h : eqFlag pc a b = some e) : e.tru ρ = (a.int ρ == b.int ρ) := by
  unfold eqFlag at h
  split at h
  · rename_i c l x
    split at h
    · rename_i hl
      have hl : l < 64 := by unfold Nat.blt at hl; exact Nat.le_of_ble_eq_true hl
      cases h
      rw [mkBeq_ok, mtAt_ok ok, bits_int, ← bit_of _ hl]
      show (_ == mtV (2 ^ l) (2 ^ l) _) = ((if c.tru ρ then (1 : Int) else 0) == _)
      cases c.tru ρ <;> cases mtV (2 ^ l) (2 ^ l) (x.int ρ) <;> rfl
    · cases h
  · rename_i c d
    cases h
    rw [mkBeq_ok]
    show _ = ((if c.tru ρ then (1 : Int) else 0) == (if d.tru ρ then (1 : Int) else 0))
    cases c.tru ρ <;> cases d.tru ρ <;> rfl
  · cases h
theorem eqLast'_ok (ok : PcOk ρ pc) (a b : SE) : (eqLast' pc a b).tru ρ = (a.int ρ == b.int ρ) := by
  unfold eqLast'
  split
  · rename_i e he; exact eqLin_ok ok he
  · split
    · rename_i e he; exact eqFlag_ok ok he
    · split
      · rename_i e he; rw [eqFlag_ok ok he, beq_swap]
      · split
        · rename_i e he; exact eqQuo_ok he
        · split
          · rename_i e he; rw [eqQuo_ok he, beq_swap]
          · rfl
theorem eqIte_ok (ok : PcOk ρ pc) : ∀ {a b e : SE}, eqIte pc a b = some e → e.tru ρ = (a.int ρ == b.int ρ) := by
  intro a
  induction a with
  | lit x => intro b e h; rw [eqLit_ok ok h, beq_swap]; rfl
  | ite c x y _ ihx ihy =>
    intro b e h
    unfold eqIte at h
    split at h
    · rename_i p q hp hq
      cases h
      rw [mkBite_ok, ihx hp, ihy hq]
      show _ = ((if c.tru ρ then x.int ρ else y.int ρ) == b.int ρ)
      split <;> rfl
    · cases h
  | _ => intro b e h; cases h
theorem eqLast_ok (ok : PcOk ρ pc) (a b : SE) : (eqLast pc a b).tru ρ = (a.int ρ == b.int ρ) := by
  unfold eqLast
  split
  · rename_i e he
    unfold eqBoth at he
    split at he
    · exact eqIte_ok ok he
    · cases he
  · exact eqLast'_ok ok a b
theorem apart_ok (ok : PcOk ρ pc) {a b : SE} (h : apart' pc a b = true) : a.int ρ ≠ b.int ρ := by
  unfold apart' at h
  split at h
  · rename_i h1 h2
    have i1 := bnd_ok ok h1
    have i2 := bnd_ok ok h2
    simp only [Bool.not_eq_true', Bool.and_eq_false_iff] at h
    intro e
    rcases h with h | h <;> (have := intLe_lt h; omega)
  · cases h
theorem eqAtom_ok (ok : PcOk ρ pc) (a b : SE) : (eqAtom pc a b).tru ρ = (a.int ρ == b.int ρ) := by
  unfold eqAtom
  split
  · rename_i h; rw [SE.same_eq h]; symm; show (_ == _) = true; simp
  · split
    · rename_i h; have := apart_ok ok h; show false = _; symm; simpa using this
    · split
      · split
        · rename_i e he; exact eqLit_ok ok he
        · rfl
      · split
        · split
          · rename_i e he; rw [eqLit_ok ok he, beq_swap]; rfl
          · show (b.int ρ == _) = _
            rw [beq_swap]; rfl
        · exact eqLast_ok ok _ _
theorem eqCat_ok (ok : PcOk ρ pc) : ∀ (x y : SE), (eqCat pc x y).tru ρ = (x.int ρ == y.int ρ) := by
  intro x
  induction x with
  | bin o a b iha _ =>
    intro y
    unfold eqCat
    cases o with
    | cat m =>
      simp only []
      rw [mkAnd_ok, iha, eqAtom_ok ok, mkBits_ok ok, mkBits_ok ok, mkShr_ok ok, cat_int, show (2 : Int) ^ 0 = 1 from rfl, Int.ediv_one, Int.ediv_one]
      have h := Int.mul_ediv_add_emod (y.int ρ) (2 ^ m)
      have e : (2 : Int) ^ m * (y.int ρ / 2 ^ m) = y.int ρ / 2 ^ m * 2 ^ m := Int.mul_comm _ _
      by_cases q : a.int ρ * 2 ^ m + b.int ρ % 2 ^ m = y.int ρ
      · have h1 : a.int ρ = y.int ρ / 2 ^ m := by rw [← q, cat_div (Nat.le_refl _), Nat.sub_self, show (2 : Int) ^ 0 = 1 from rfl, Int.ediv_one]
        have h2 : b.int ρ % 2 ^ m = y.int ρ % 2 ^ m := by rw [← q, cat_mod (Nat.le_refl _)]
        have e1 : (a.int ρ == y.int ρ / 2 ^ m) = true := by simpa using h1
        have e2 : (b.int ρ % 2 ^ m == y.int ρ % 2 ^ m) = true := by simpa using h2
        have e3 : (a.int ρ * 2 ^ m + b.int ρ % 2 ^ m == y.int ρ) = true := by simpa using q
        rw [e1, e2, e3]; rfl
      · have e3 : (a.int ρ * 2 ^ m + b.int ρ % 2 ^ m == y.int ρ) = false := by simpa using q
        rw [e3, Bool.and_eq_false_iff]
        by_cases h1 : a.int ρ = y.int ρ / 2 ^ m
        · right
          have : b.int ρ % 2 ^ m ≠ y.int ρ % 2 ^ m := fun h2 => q (by rw [h1, h2, ← e]; exact h)
          simpa using this
        · left; simpa using h1
    | _ => exact eqAtom_ok ok _ _
  | _ => intro y; exact eqAtom_ok ok _ _
theorem mkEq_ok (ok : PcOk ρ pc) (a b : SE) : (mkEq pc a b).tru ρ = (a.int ρ == b.int ρ) := by
  unfold mkEq
  split
  · rw [litB_ok, eqInt]; rfl
  · split
    · split
      · rename_i h; rw [SE.same_eq h]; symm; show (_ == _) = true; simp
      · exact eqCat_ok ok _ _
    · split
      · rw [eqCat_ok ok, beq_swap]
      · exact eqAtom_ok ok _ _
theorem ltInt (n c : Int) : intLe (n + 1) c = decide (n < c) := by
  cases hc : intLe (n + 1) c
  · have := intLe_lt hc; symm; simp; omega
  · have := intLe_le hc; symm; simp; omega
theorem ltAt_ok (ok : PcOk ρ pc) (a b : SE) : (ltAt pc a b).tru ρ = decide (a.int ρ < b.int ρ) := by
  unfold ltAt
  split
  · rename_i n
    rw [mkNot_ok]
    show (!decide (b.int ρ < n + 1)) = decide (n < b.int ρ)
    by_cases h : n < b.int ρ
    · have : ¬ (b.int ρ < n + 1) := by omega
      simp [h, this]
    · have : b.int ρ < n + 1 := by omega
      simp [h, this]
  · rename_i l n x
    split
    · rename_i z
      split
      · rename_i h
        simp only [Bool.and_eq_true] at h
        have h1 := Nat.le_of_ble_eq_true h.1
        have h2 := Nat.le_of_ble_eq_true h.2.1
        have h3 := intSame_eq h.2.2
        subst h3
        rw [mtAt_ok ok, bits_int]
        show _ = decide (_ < p2 (n - 1))
        rw [p2_eq]
        have b1 := bit_of (x.int ρ) (k := l + n - 1) (by omega)
        have e1 : l + n - 1 = l + (n - 1) := by omega
        have z1 : mtV (2 ^ (l + n - 1)) 0 (x.int ρ) = !mtV (2 ^ (l + n - 1)) (2 ^ (l + n - 1)) (x.int ρ) := by
          have m1 := mtV_bits (x.int ρ) (m := 1) (v := 1) (l := l + n - 1) (n := 1) (by omega)
          have m0 := mtV_bits (x.int ρ) (m := 1) (v := 0) (l := l + n - 1) (n := 1) (by omega)
          rw [Nat.one_mul] at m1
          rw [Nat.one_mul, Nat.zero_mul] at m0
          rw [m1, m0]
          have g0 := Int.emod_nonneg (x.int ρ / 2 ^ (l + n - 1)) (Int.ne_of_gt (pow_pos' 1))
          have g1 := Int.emod_lt_of_pos (x.int ρ / 2 ^ (l + n - 1)) (pow_pos' 1)
          have g3 : x.int ρ / 2 ^ (l + n - 1) % 2 ^ 1 = 0 ∨ x.int ρ / 2 ^ (l + n - 1) % 2 ^ 1 = 1 := by have : (2 : Int) ^ 1 = 2 := rfl; omega
          rcases g3 with e | e
          · rw [e]; rfl
          · rw [e]; rfl
        show mtV (2 ^ (l + n - 1)) 0 (x.int ρ) = _
        rw [z1]
        have j := join2 (x.int ρ / 2 ^ l) 1 (n - 1)
        have e2 : 1 + (n - 1) = n := by omega
        rw [div_div2, e2, ← e1, ← b1] at j
        rw [← j]
        have g0 := Int.emod_nonneg (x.int ρ / 2 ^ l) (Int.ne_of_gt (pow_pos' (n - 1)))
        have g1 := Int.emod_lt_of_pos (x.int ρ / 2 ^ l) (pow_pos' (n - 1))
        have g2 := pow_pos' (n - 1)
        cases mtV (2 ^ (l + n - 1)) (2 ^ (l + n - 1)) (x.int ρ)
        · symm; simp; omega
        · symm; simp; omega
      · rfl
    · rfl
  · rfl
theorem ltN_ok (ok : PcOk ρ pc) (a b : SE) : (ltN pc a b).tru ρ = decide (a.int ρ < b.int ρ) := by
  unfold ltN
  split
  · rename_i c x y
    split
    · rename_i n m
      split
      · rename_i z
        rw [mkBite_ok, litB_ok, litB_ok, ltInt, ltInt]
        show _ = decide ((if c.tru ρ then n else m) < z)
        split <;> rfl
      · rfl
    · exact ltAt_ok ok _ _
  · exact ltAt_ok ok _ _
theorem mkLt_ok (ok : PcOk ρ pc) (a b : SE) : (mkLt pc a b).tru ρ = decide (a.int ρ < b.int ρ) := by
  unfold mkLt
  split
  · rename_i h1 h2
    have i1 := bnd_ok ok h1
    have i2 := bnd_ok ok h2
    split
    · rename_i h; have := intLe_le h; symm; show decide _ = true; simp; omega
    · split
      · rename_i h; have := intLe_le h; symm; show decide _ = false; simp; omega
      · exact ltN_ok ok a b
  · exact ltN_ok ok a b
theorem mkLe_ok (ok : PcOk ρ pc) (a b : SE) : (mkLe pc a b).tru ρ = decide (a.int ρ ≤ b.int ρ) := by
  unfold mkLe
  rw [mkNot_ok, mkLt_ok ok]
  by_cases h : a.int ρ ≤ b.int ρ
  · have : ¬ (b.int ρ < a.int ρ) := by omega
    simp [h, this]
  · have : b.int ρ < a.int ρ := by omega
    simp [h, this]
/-! ### sums and products -/
theorem wrap_unsigned {k : IntKind} (h : k.signed = false) (x : Int) : k.wrap x = x % 2 ^ k.bits := by
  cases k <;> simp [IntKind.signed, IntKind.bits, IntKind.wrap] at * <;> omega
theorem mkWrap_ok (ok : PcOk ρ pc) (k : IntKind) (a : SE) : (mkWrap pc k a).int ρ = k.wrap (a.int ρ) := by
  have go : (match k.signed with | true => SE.un (.wrap k) a | false => mkBits pc 0 k.bits a).int ρ = k.wrap (a.int ρ) := by
    split
    · rfl
    · rename_i h; rw [mkBits_ok ok, wrap_unsigned h, show (2 : Int) ^ 0 = 1 from rfl, Int.ediv_one]
  unfold mkWrap
  split
  · rfl
  · split
    · rename_i l h hr
      have i := bnd_ok ok hr
      split
      · rename_i hb
        have hb := within_ok hb
        exact (wrap_id (by omega) (by omega)).symm
      · exact go
    · exact go
theorem mkInt_ok (o : BO) (a b : SE) : (mkInt o a b).int ρ = o.int (a.int ρ) (b.int ρ) := by
  unfold mkInt
  split <;> rfl
theorem asCat_ok (ok : PcOk ρ pc) {a b e : SE} (h : asCat pc a b = some e) : e.int ρ = a.int ρ + b.int ρ := by
  unfold asCat at h
  split at h
  · rename_i c m
    split at h
    · rename_i k hk
      have hk := logI_ok hk
      subst hk
      split at h
      · rename_i hl
        obtain ⟨g0, g1⟩ := low_ok ok hl
        cases h
        rw [mkCat_ok ok, small_mod g0 g1 (Nat.le_refl _)]
        rfl
      · cases h
    · cases h
  · cases h
theorem add_int (a b : SE) : (SE.bin .add a b).int ρ = a.int ρ + b.int ρ := rfl
theorem sub_int (a b : SE) : (SE.bin .sub a b).int ρ = a.int ρ - b.int ρ := rfl
theorem lit_int (n : Int) : (SE.lit n).int ρ = n := rfl
theorem mkAdd_ok (ok : PcOk ρ pc) (a b : SE) : (mkAdd pc a b).int ρ = a.int ρ + b.int ρ := by
  unfold mkAdd
  split
  · rename_i e he; exact asCat_ok ok he
  · split
    · rename_i e he; rw [asCat_ok ok he, Int.add_comm]
    · split
      · rfl
      · split
        · rename_i h; rw [intSame_eq h, lit_int]; omega
        · rw [add_int]; exact Int.add_comm _ _
      · simp only [add_int, lit_int]; omega
      · split
        · rename_i h; simp only [sub_int, lit_int, intSame_eq h]; omega
        · simp only [sub_int, add_int, lit_int]; omega
      · split
        · rename_i h; rw [intSame_eq h, lit_int]; omega
        · rfl
      · rfl
theorem mkSub_ok (a b : SE) : (mkSub a b).int ρ = a.int ρ - b.int ρ := by
  unfold mkSub
  split
  · rfl
  · split
    · rename_i h; simp only [add_int, lit_int, intSame_eq h]; omega
    · simp only [add_int, lit_int]; omega
  · split
    · rename_i h; rw [intSame_eq h, lit_int]; omega
    · rfl
  · rfl
theorem mkMul_ok (a b : SE) : (mkMul a b).int ρ = a.int ρ * b.int ρ := by
  unfold mkMul
  split
  · rfl
  · split
    · rename_i h; rw [intSame_eq h, lit_int, Int.one_mul]
    · exact Int.mul_comm _ _
  · split
    · rename_i h; rw [intSame_eq h, lit_int, Int.mul_one]
    · rfl
  · rfl
theorem negR_ok (ok : PcOk ρ pc) {a : SE} (h : negR (bnd pc a) = false) : 0 ≤ a.int ρ := by
  unfold negR at h
  split at h
  · rename_i l u hr
    have := (bnd_ok ok hr).1
    have e : (0 : Int) ≤ Int.ofNat l := Int.natCast_nonneg l
    omega
  · cases h
theorem cutDown_ok {k : Nat} {a x : SE} (h : cutDown k a = some x) : a.int ρ = 2 ^ k * (x.int ρ / 2 ^ k) := by
  unfold cutDown at h
  split at h
  · rename_i x' l n y
    split at h
    · rename_i hb
      simp only [Bool.and_eq_true] at hb
      have h1 := Nat.eq_of_beq_eq_true hb.1
      have h2 := Nat.eq_of_beq_eq_true hb.2
      subst h1; subst h2
      split at h
      · rename_i hs
        have hs := SE.same_eq hs
        subst hs
        cases h
        rw [sub_int, bits_int, show (2 : Int) ^ 0 = 1 from rfl, Int.ediv_one]
        have := Int.mul_ediv_add_emod (x.int ρ) (2 ^ n)
        omega
      · cases h
    · cases h
  · cases h
theorem tdiv_pow {x : Int} {k : Nat} (h : 0 ≤ x) : x.tdiv (2 ^ k) = x / 2 ^ k := Int.tdiv_eq_ediv_of_nonneg h
theorem mkQuo_ok (ok : PcOk ρ pc) (a : SE) (m : Int) : (mkQuo pc a m).int ρ = (a.int ρ).tdiv m := by
  unfold mkQuo
  split
  · rfl
  · split
    · rename_i h; rw [intSame_eq h]; exact (Int.tdiv_one _).symm
    · split
      · rename_i c k _
        split
        · rename_i h
          split
          · rfl
          · rename_i h0
            rw [intSame_eq h]
            exact (Int.mul_tdiv_cancel (c.int ρ) (intSame_ne h0)).symm
        · rfl
      · split
        · rename_i k hk
          have hk := logI_ok hk
          subst hk
          split
          · rename_i hn
            rw [mkShr_ok ok, tdiv_pow (negR_ok ok hn)]
          · split
            · rename_i x hx
              rw [mkShr_ok ok, cutDown_ok hx, Int.mul_tdiv_cancel_left _ (Int.ne_of_gt (pow_pos' k))]
            · rfl
        · rfl
theorem mkRem_ok (ok : PcOk ρ pc) (a : SE) (m : Int) : (mkRem pc a m).int ρ = (a.int ρ).tmod m := by
  unfold mkRem
  split
  · rfl
  · split
    · rename_i h; rw [intSame_eq h]; exact (Int.tmod_one _).symm
    · split
      · rename_i c k
        split
        · rename_i h
          rw [intSame_eq h]
          exact (Int.mul_tmod_left _ m).symm
        · rfl
      · split
        · rename_i k hk
          have hk := logI_ok hk
          subst hk
          split
          · rename_i hn
            rw [mkBits_ok ok, show (2 : Int) ^ 0 = 1 from rfl, Int.ediv_one, Int.tmod_eq_emod_of_nonneg (negR_ok ok hn)]
          · rfl
        · rfl
theorem ones_ok (k : IntKind) (x : Int) {n : Nat} {y : Int} (hn : logI (y + 1) = some n) (hy : y ≤ k.max) : bandV k x y = x % 2 ^ n := by
  have hk := logI_ok hn
  have hk64 : k.max < 2 ^ 64 := by cases k <;> decide
  have e : (2 : Int) ^ n = ((2 ^ n : Nat) : Int) := by simp
  have hp := Nat.two_pow_pos n
  have ey : y = ((2 ^ n - 1 : Nat) : Int) := by omega
  have hn64 : n ≤ 64 := by
    cases Nat.lt_or_ge 64 n with
    | inr h => exact h
    | inl h =>
      have : (2 : Int) ^ 65 ≤ 2 ^ n := ipow_le h
      have e65 : (2 : Int) ^ 65 = 36893488147419103232 := rfl
      have e64 : (2 : Int) ^ 64 = 18446744073709551616 := rfl
      omega
  rw [ey] at hy ⊢
  rw [bandV_nat k x hy, Nat.and_two_pow_sub_one_eq_mod, W_mod x hn64]
theorem bandV_comm (k : IntKind) (x y : Int) : bandV k x y = bandV k y x := by unfold bandV; rw [BitVec.and_comm]
theorem mkBand_ok (ok : PcOk ρ pc) (k : IntKind) (a b : SE) : (mkBand pc k a b).int ρ = bandV k (a.int ρ) (b.int ρ) := by
  unfold mkBand
  split
  · rfl
  · split
    · rename_i n hn hb
      simp only [Bool.and_eq_true] at hb
      rw [mkBits_ok ok, lit_int, bandV_comm, ones_ok k _ hn (intLe_le hb.2), show (2 : Int) ^ 0 = 1 from rfl, Int.ediv_one]
    · exact bandV_comm k _ _
  · split
    · rename_i n hn hb
      simp only [Bool.and_eq_true] at hb
      rw [mkBits_ok ok, lit_int, ones_ok k _ hn (intLe_le hb.2), show (2 : Int) ^ 0 = 1 from rfl, Int.ediv_one]
    · rfl
  · rfl
theorem mulOf_ok {a c : SE} {j : Nat} (h : mulOf a = some (c, j)) : a.int ρ = c.int ρ * 2 ^ j := by
  unfold mulOf at h
  split at h
  · split at h
    · rename_i k hk
      cases h
      have := logI_ok hk
      subst this
      rfl
    · cases h
  · split at h
    · rename_i hz
      cases h
      rw [cat_int, intSame_eq hz, lit_int]
      simp
    · cases h
  · cases h
theorem borV_sum (k : IntKind) {c y : Int} {j : Nat} (hx : 0 ≤ c * 2 ^ j) (h0 : 0 ≤ y) (h1 : y < 2 ^ j) (hs : c * 2 ^ j + 2 ^ j ≤ k.max) : borV k (c * 2 ^ j) y = c * 2 ^ j + y := by
  have hmax : k.max < 2 ^ k.bits := by cases k <;> decide
  have e : (2 : Int) ^ j = ((2 ^ j : Nat) : Int) := by simp
  have eb : (2 : Int) ^ k.bits = ((2 ^ k.bits : Nat) : Int) := by simp
  have hp := Nat.two_pow_pos j
  have hc : 0 ≤ c := by
    by_cases h : c < 0
    · have : c * 2 ^ j < 0 := Int.mul_neg_of_neg_of_pos h (pow_pos' j)
      omega
    · omega
  obtain ⟨d, rfl⟩ := Int.eq_ofNat_of_zero_le hc
  obtain ⟨u, rfl⟩ := Int.eq_ofNat_of_zero_le h0
  have ex : ((d : Nat) : Int) * 2 ^ j = ((2 ^ j * d : Nat) : Int) := by rw [e, Int.natCast_mul, Int.mul_comm]
  rw [ex] at hs hx ⊢
  rw [e] at h1 hs
  rw [eb] at hmax
  have l1 : 2 ^ j * d < 2 ^ k.bits := by omega
  have l2 : u < 2 ^ k.bits := by omega
  have ofN : ∀ n : Nat, n < 2 ^ k.bits → (BitVec.ofInt k.bits (n : Int)).toNat = n := by
    intro n hn
    rw [BitVec.toNat_ofInt]
    have : ((n : Nat) : Int) % ((2 ^ k.bits : Nat) : Int) = ((n % 2 ^ k.bits : Nat) : Int) := (Int.natCast_emod _ _).symm
    rw [this, Nat.mod_eq_of_lt hn]
    simp
  unfold borV
  rw [BitVec.toNat_or, ofN _ l1, ofN _ l2]
  have : 2 ^ j * d ||| u = 2 ^ j * d + u := (Nat.two_pow_add_eq_or_of_lt (by omega) d).symm
  rw [this]
  have hmin : k.min ≤ 0 := by cases k <;> decide
  rw [wrap_id (by omega) (by omega)]
  omega
theorem asOr_ok (ok : PcOk ρ pc) {k : IntKind} {a b e : SE} (h : asOr pc k a b = some e) : e.int ρ = borV k (a.int ρ) (b.int ρ) := by
  unfold asOr at h
  split at h
  · rename_i c j hm
    have hm := mulOf_ok (ρ := ρ) hm
    split at h
    · rename_i hl
      obtain ⟨g0, g1⟩ := low_ok ok hl
      split at h
      · rename_i l u hr
        have b1 := bnd_ok ok hr
        have e0 : (0 : Int) ≤ Int.ofNat l := Int.natCast_nonneg l
        split at h
        · rename_i hs
          have hs := intLe_le hs
          rw [p2_eq] at hs
          cases h
          rw [mkCat_ok ok, small_mod g0 g1 (Nat.le_refl _), hm, borV_sum k (by rw [← hm]; omega) g0 g1 (by rw [← hm]; omega)]
        · cases h
      · cases h
    · cases h
  · cases h
theorem borV_comm (k : IntKind) (x y : Int) : borV k x y = borV k y x := by unfold borV; rw [BitVec.or_comm]
theorem mkBor_ok (ok : PcOk ρ pc) (k : IntKind) (a b : SE) : (mkBor pc k a b).int ρ = borV k (a.int ρ) (b.int ρ) := by
  unfold mkBor
  split
  · rfl
  · split
    · rename_i e he; exact asOr_ok ok he
    · split
      · rename_i e he; rw [asOr_ok ok he, borV_comm]
      · rfl
end
end Go.Proofs.Ytopfaapcekiojaa.Sym
