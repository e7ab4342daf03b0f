/- What is decided is so; what is assumed is so. -/
import Derived.Test.YtopfaapcekiojaaSymO
namespace Go.Proofs.Ytopfaapcekiojaa.Sym
open Go Go.RowKit Go.Proofs.Ytopfaapcekiojaa

theorem mem_ok {x : Int} : ∀ {l : List Int}, PC.mem x l = true → x ∈ l
  | [], h => by cases h
  | y :: r, h => by
    unfold PC.mem at h
    split at h
    · rename_i hs; rw [intSame_eq hs]; exact List.mem_cons_self
    · exact List.mem_cons_of_mem _ (mem_ok h)
section
variable {ρ : Env} {pc : PC}
theorem evalE_ok (ok : PcOk ρ pc) {e : SE} {n : Int} (h : evalE pc e = some n) : e.int ρ = n := by
  unfold evalE at h
  split at h
  · rename_i l u hr
    have b := bnd_ok ok hr
    split at h
    · rename_i hs
      have := intSame_eq hs
      cases h
      omega
    · cases h
  · cases h
theorem findC_ok (ok : PcOk ρ pc) {e : SE} {t : Bool} (h : findC pc e = some t) : e.tru ρ = t := by
  obtain ⟨f, hm, rfl, rfl⟩ := findF_ok h
  exact ok.fs f hm
theorem findS_ok (ok : PcOk ρ pc) {e : SE} {t : Bool} {hs : Nat} (h : findF hs e pc.cs = some t) : e.tru ρ = t := by
  obtain ⟨f, hm, rfl, rfl⟩ := findF_ok h
  exact ok.cs f hm
theorem out_ok (ok : PcOk ρ pc) {a : SE} {l h c : Int} (hr : bnd pc a = some (l, h)) (hc : (intLe l c && intLe c h) = false) : a.int ρ ≠ c := by
  have b := bnd_ok ok hr
  rw [Bool.and_eq_false_iff] at hc
  intro e
  rcases hc with hc | hc <;> (have := intLe_lt hc; omega)
theorem eqKnown_ok (ok : PcOk ρ pc) {a b : SE} {t : Bool} (hk : eqKnown pc a b = some t) : (a.int ρ == b.int ρ) = t := by
  unfold eqKnown at hk
  split at hk
  · rename_i hs; cases hk; rw [SE.same_eq hs]; simp
  · split at hk
    · rename_i y _
      show (a.int ρ == y) = t
      split at hk
      · rename_i l u hr
        split at hk
        · rename_i hin
          simp only [Bool.and_eq_true] at hin
          split at hk
          · rename_i hs
            cases hk
            have b := bnd_ok ok hr
            have := intSame_eq hs
            have h1 := intLe_le hin.1
            have h2 := intLe_le hin.2
            have : a.int ρ = y := by omega
            simpa using this
          · split at hk
            · rename_i e he
              split at hk
              · rename_i hm
                cases hk
                obtain ⟨h1, rfl⟩ := findIv_ok he
                have := (ok.iv _ h1).ne _ (mem_ok hm)
                simpa using this
              · cases hk
            · cases hk
        · rename_i hin
          cases hk
          have := out_ok ok hr (by simpa using hin)
          simpa using this
      · cases hk
    · exact findC_ok ok hk
theorem transE_ok (ok : PcOk ρ pc) {a b : SE} {t : Bool} : ∀ {l : List Fact}, (∀ f ∈ l, f.e.tru ρ = f.t) → transE pc a b l = some t → (a.int ρ == b.int ρ) = t
  | [], _, hk => by cases hk
  | f :: r, hl, hk => by
    have hr : ∀ f ∈ r, f.e.tru ρ = f.t := fun c hc => hl c (List.mem_cons_of_mem _ hc)
    have h0 := hl f List.mem_cons_self
    unfold transE at hk
    split at hk
    · rename_i ht
      split at hk
      · rename_i x y he
        have hxy : x.int ρ = y.int ρ := by
          rw [he, ht] at h0
          have : (x.int ρ == y.int ρ) = true := h0
          simpa using this
        split at hk
        · rename_i hs
          split at hk
          · rename_i v hv; cases hk; rw [← SE.same_eq hs, hxy]; exact eqKnown_ok ok hv
          · exact transE_ok ok hr hk
        · split at hk
          · rename_i hs
            split at hk
            · rename_i v hv; cases hk; rw [← SE.same_eq hs, ← hxy]; exact eqKnown_ok ok hv
            · exact transE_ok ok hr hk
          · exact transE_ok ok hr hk
      · exact transE_ok ok hr hk
    · exact transE_ok ok hr hk
theorem bitsSay_ok {e : Iv} (k : IvOk ρ e) {c : Int} (h : bitsSay e c = true) : e.x.int ρ ≠ c := by
  unfold bitsSay at h
  split at h
  · rename_i n
    split at h
    · rename_i hn
      have hn : n < 18446744073709551616 := by unfold Nat.blt at hn; exact Nat.le_of_ble_eq_true hn
      intro q
      have hk := k.km
      rw [q] at hk
      have : W (Int.ofNat n) = n := by unfold W; show (((n : Nat) : Int) % _).toNat = n; omega
      rw [this] at hk
      have h : Nat.beq (n &&& e.km) e.kv = false := by simpa using h
      rw [hk, nbeq] at h
      simp at h
    · cases h
  · cases h
theorem decEqL_ok (ok : PcOk ρ pc) {a : SE} {c : Int} {t : Bool} (h : decEqL pc a c = some t) : (a.int ρ == c) = t := by
  have tr : transE pc a (.lit c) pc.fs = some t → (a.int ρ == c) = t := fun h => transE_ok ok ok.fs h
  unfold decEqL at h
  split at h
  · rename_i l u hr
    split at h
    · rename_i hin
      cases h
      have := out_ok ok hr hin
      simpa using this
    · rename_i hin
      simp only [Bool.and_eq_true] at hin
      split at h
      · rename_i hs
        cases h
        have b := bnd_ok ok hr
        have := intSame_eq hs
        have h1 := intLe_le hin.1
        have h2 := intLe_le hin.2
        have : a.int ρ = c := by omega
        simpa using this
      · split at h
        · rename_i e he
          split at h
          · rename_i hm
            cases h
            obtain ⟨h1, rfl⟩ := findIv_ok he
            simp only [Bool.or_eq_true] at hm
            have : e.x.int ρ ≠ c := by
              rcases hm with hm | hm
              · exact (ok.iv _ h1).ne _ (mem_ok hm)
              · exact bitsSay_ok (ok.iv _ h1) hm
            simpa using this
          · exact tr h
        · exact tr h
  · split at h
    · rename_i e he
      split at h
      · rename_i hm
        cases h
        obtain ⟨h1, rfl⟩ := findIv_ok he
        have k := ok.iv _ h1
        simp only [Bool.or_eq_true, Bool.not_eq_true'] at hm
        have : e.x.int ρ ≠ c := by
          rcases hm with hm | hm | hm | hm
          · exact k.ne _ (mem_ok hm)
          · exact bitsSay_ok k hm
          · intro q
            have := intLe_lt hm
            have := meetLo_ok (l := c) (v := c) (o := e.lo) (Int.le_refl _) (fun n hn => by have := k.lo n hn; omega)
            omega
          · intro q
            have := intLe_lt hm
            have := meetHi_ok (h := c) (v := c) (o := e.hi) (Int.le_refl _) (fun n hn => by have := k.hi n hn; omega)
            omega
        simpa using this
      · exact tr h
    · exact tr h
theorem decLtL_ok (ok : PcOk ρ pc) {a : SE} {c : Int} {t : Bool} (h : decLtL pc a c = some t) : decide (a.int ρ < c) = t := by
  unfold decLtL at h
  split at h
  · rename_i l u hr
    have b := bnd_ok ok hr
    split at h
    · rename_i hs; cases h; have := intLe_le hs; simp; omega
    · split at h
      · rename_i hs; cases h; have := intLe_le hs; simp; omega
      · cases h
  · split at h
    · rename_i e he
      obtain ⟨h1, rfl⟩ := findIv_ok he
      have k := ok.iv _ h1
      split at h
      · rename_i l hl
        split at h
        · rename_i hs; cases h; have := intLe_le hs; have := k.lo _ hl; simp; omega
        · cases h
      · rename_i u hl hu
        split at h
        · rename_i hs; cases h; have := intLe_le hs; have := k.hi _ hu; simp; omega
        · cases h
      · cases h
    · cases h
theorem notSo_ok {m v km kv : Nat} {x : Int} (hk : W x &&& km = kv) (hm : W x &&& m = v) : ∀ {l : List (Nat × Nat)}, (∀ p ∈ l, mtV p.1 p.2 x = false) → notSo m v km kv l = true → False
  | [], _, h => by cases h
  | (m', v') :: r, hl, h => by
    have hr : ∀ p ∈ r, mtV p.1 p.2 x = false := fun c hc => hl c (List.mem_cons_of_mem _ hc)
    have h0 : mtV m' v' x = false := hl _ List.mem_cons_self
    unfold notSo at h
    split at h
    · rename_i h1
      have h1 : m' &&& (km ||| m) = m' := Nat.eq_of_beq_eq_true h1
      split at h
      · rename_i h2
        have h2 : (kv ||| v) &&& m' = v' := Nat.eq_of_beq_eq_true h2
        rw [mtV_eq] at h0
        have : W x &&& m' = v' := by
          rw [← h2, ← hk, ← hm, ← Nat.and_or_distrib_left, Nat.and_assoc, Nat.and_comm (km ||| m), h1]
        rw [this] at h0
        simp at h0
      · exact notSo_ok hk hm hr h
    · exact notSo_ok hk hm hr h
theorem decMt_ok (ok : PcOk ρ pc) {m v : Nat} {x : SE} {t : Bool} (h : decMt pc m v x = some t) : mtV m v (x.int ρ) = t := by
  unfold decMt at h
  split at h
  · rename_i c hc; cases h; rw [evalE_ok ok hc]
  · split at h
    · rename_i e he
      obtain ⟨h1, rfl⟩ := findIv_ok he
      have k := ok.iv _ h1
      have hk := k.km
      split at h
      · rename_i hb
        cases h
        have hb : ¬ (m &&& e.km &&& v = m &&& e.km &&& e.kv) := by
          have hb : Nat.beq (m &&& e.km &&& v) (m &&& e.km &&& e.kv) = false := hb
          simpa [nbeq] using hb
        rw [mtV_eq]
        have : W (e.x.int ρ) &&& m ≠ v := by
          intro q
          apply hb
          rw [← q, ← hk]
          apply Nat.eq_of_testBit_eq
          intro i
          simp only [Nat.testBit_and]
          cases m.testBit i <;> cases e.km.testBit i <;> simp
        simpa using this
      · rename_i hb
        have hb : m &&& e.km &&& v = m &&& e.km &&& e.kv := Nat.eq_of_beq_eq_true hb
        split at h
        · rename_i hm
          have hm : m &&& e.km = m := Nat.eq_of_beq_eq_true hm
          cases h
          rw [hm, ← hk] at hb
          -- all bits are known
          have hw : W (e.x.int ρ) &&& m = m &&& v := by
            rw [hb]
            apply Nat.eq_of_testBit_eq
            intro i
            have := congrArg (fun y => Nat.testBit y i) hm
            simp only [Nat.testBit_and] at this ⊢
            revert this
            cases m.testBit i <;> cases e.km.testBit i <;> cases (W (e.x.int ρ)).testBit i <;> simp
          rw [mtV_eq, hw, Nat.and_comm]
          exact (nbeq _ _).symm
        · split at h
          · rename_i hn
            cases h
            rw [mtV_eq]
            have : W (e.x.int ρ) &&& m ≠ v := fun q => notSo_ok hk q k.nm hn
            simpa using this
          · cases h
    · cases h
theorem dec_ok (ok : PcOk ρ pc) : ∀ {e : SE} {b : Bool}, dec pc e = some b → e.tru ρ = b := by
  intro e
  induction e with
  | tt => intro b hd; cases hd; rfl
  | ff => intro b hd; cases hd; rfl
  | un o a ih =>
    intro b hd
    unfold dec at hd
    cases o with
    | not =>
      simp only [] at hd
      split at hd
      · rename_i hb; cases hd; show (!(a.tru ρ)) = _; rw [ih hb]
      · cases hd
    | _ => cases hd
  | bin o a b iha ihb =>
    intro t hd
    unfold dec at hd
    cases o with
    | and =>
      simp only [] at hd
      show (a.tru ρ && b.tru ρ) = t
      split at hd
      · rename_i ha; cases hd; rw [iha ha]; rfl
      · rename_i ha; rw [iha ha, ihb hd]; rfl
      · split at hd
        · rename_i hb; cases hd; rw [ihb hb]; simp
        · exact findS_ok ok hd
    | or =>
      simp only [] at hd
      show (a.tru ρ || b.tru ρ) = t
      split at hd
      · rename_i ha; cases hd; rw [iha ha]; rfl
      · rename_i ha; rw [iha ha, ihb hd]; rfl
      · split at hd
        · rename_i hb; cases hd; rw [ihb hb]; simp
        · exact findS_ok ok hd
    | eq =>
      simp only [] at hd
      show (a.int ρ == b.int ρ) = t
      split at hd
      · exact decEqL_ok ok hd
      · split at hd
        · rename_i hf; cases hd; exact findC_ok ok hf
        · split at hd
          · rename_i hp; cases hd; have := apart_ok ok hp; simpa using this
          · split at hd
            · rename_i c hc; rw [evalE_ok ok hc]; exact decEqL_ok ok hd
            · exact transE_ok ok ok.fs hd
    | beq =>
      simp only [] at hd
      split at hd
      · rename_i x y hx hy; cases hd; show (a.tru ρ == b.tru ρ) = _; rw [iha hx, ihb hy]
      · exact findS_ok ok hd
    | lt =>
      simp only [] at hd
      show decide (a.int ρ < b.int ρ) = t
      split at hd
      · exact decLtL_ok ok hd
      · split at hd
        · rename_i hf; cases hd; exact findC_ok ok hf
        · split at hd
          · rename_i c hc; rw [evalE_ok ok hc]; exact decLtL_ok ok hd
          · cases hd
    | mt m v => exact decMt_ok ok hd
    | _ => cases hd
  | bite c a b ihc iha ihb =>
    intro t hd
    unfold dec at hd
    show (if c.tru ρ then a.tru ρ else b.tru ρ) = t
    split at hd
    · rename_i hc; rw [ihc hc]; exact iha hd
    · rename_i hc; rw [ihc hc]; exact ihb hd
    · exact findS_ok ok hd
  | _ => intro b hd; exact findC_ok ok hd
theorem updIv_ok {h : Nat} {x : SE} {f : Iv → Iv} (hf : ∀ e : Iv, e.x = x → IvOk ρ e → IvOk ρ (f e)) : ∀ {l : List Iv}, (∀ e ∈ l, IvOk ρ e) → ∀ e ∈ updIv h x f l, IvOk ρ e
  | [], _, e, he => by
    have : e = f (Iv.fresh h x) := by simpa [updIv] using he
    subst this
    exact hf _ rfl ⟨(by intro k q; cases q), (by intro k q; cases q), (by intro k q; cases q), Nat.and_zero _, (by intro k q; cases q)⟩
  | y :: r, hl, e, he => by
    have hr : ∀ e ∈ r, IvOk ρ e := fun c hc => hl c (List.mem_cons_of_mem _ hc)
    have h0 := hl y List.mem_cons_self
    unfold updIv at he
    split at he
    · split at he
      · rename_i hs
        rcases List.mem_cons.1 he with rfl | he
        · exact hf _ (SE.same_eq hs) h0
        · exact hr e he
      · rcases List.mem_cons.1 he with rfl | he
        · exact h0
        · exact updIv_ok hf hr e he
    · rcases List.mem_cons.1 he with rfl | he
      · exact h0
      · exact updIv_ok hf hr e he
theorem tightLo_ok {ne : List Int} {v : Int} (hn : ∀ k ∈ ne, v ≠ k) : ∀ (n : Nat) (l : Int), l ≤ v → tightLo ne n l ≤ v
  | 0, _, h => h
  | n + 1, l, h => by
    unfold tightLo
    split
    · rename_i hm
      have := hn _ (mem_ok hm)
      exact tightLo_ok hn n (l + 1) (by omega)
    · exact h
theorem tightHi_ok {ne : List Int} {v : Int} (hn : ∀ k ∈ ne, v ≠ k) : ∀ (n : Nat) (l : Int), v ≤ l → v ≤ tightHi ne n l
  | 0, _, h => h
  | n + 1, l, h => by
    unfold tightHi
    split
    · rename_i hm
      have := hn _ (mem_ok hm)
      exact tightHi_ok hn n (l - 1) (by omega)
    · exact h
theorem put_ok (ok : PcOk ρ pc) {l : List Iv} (hl : ∀ e ∈ l, IvOk ρ e) (h : Nat) (x : SE) : PcOk ρ (pc.put l h x) := by
  obtain ⟨bd, fb, iv, fs, cs, bad⟩ := pc
  have hg : bad = false := ok.good
  have base : PcOk ρ ⟨bd, fb, l, fs, cs, bad⟩ := ⟨ok.bd, ok.fb, hl, ok.fs, ok.cs, ok.good⟩
  unfold PC.put
  simp only []
  split
  · rename_i lo hi hb
    have b := bnd_ok base hb
    split
    · rename_i e he
      obtain ⟨h1, rfl⟩ := findIv_ok he
      have k := hl _ h1
      split
      · refine ⟨ok.bd, ok.fb, hl, ok.fs, ok.cs, ?_⟩
        show (match intLe lo hi with | true => bad | false => true) = false
        cases hc : intLe lo hi
        · have := intLe_lt hc; omega
        · exact hg
      · have t1 := tightLo_ok k.ne e.ne.length lo b.1
        have t2 := tightHi_ok k.ne e.ne.length hi b.2
        split
        · refine ⟨ok.bd, ok.fb, updIv_ok ?_ hl, ok.fs, ok.cs, hg⟩
          intro y hy ky
          obtain ⟨yh, yx, ylo, yhi, yne, ykm, ykv, ynm⟩ := y
          replace hy : yx = e.x := hy
          subst hy
          have t1 := tightLo_ok ky.ne yne.length lo b.1
          have t2 := tightHi_ok ky.ne yne.length hi b.2
          exact ⟨fun k hk => (by cases hk; exact t1), fun k hk => (by cases hk; exact t2), ky.ne, ky.km, ky.nm⟩
        · rename_i hc
          have := intLe_lt hc
          omega
    · exact base
  · exact base
theorem upd_ok (ok : PcOk ρ pc) {x : SE} {f : Iv → Iv} (hf : ∀ e : Iv, e.x = x → IvOk ρ e → IvOk ρ (f e)) : PcOk ρ (pc.upd x f) := put_ok ok (updIv_ok hf ok.iv) _ _
theorem setHi_ok {c : Int} {e : Iv} (h : e.x.int ρ ≤ c) (k : IvOk ρ e) : IvOk ρ (e.setHi c) := by
  obtain ⟨eh, x, lo, hi, ne, km, kv, nm⟩ := e
  exact ⟨k.lo, fun n hn => (by cases hn; exact meetHi_ok h k.hi), k.ne, k.km, k.nm⟩
theorem setLo_ok {c : Int} {e : Iv} (h : c ≤ e.x.int ρ) (k : IvOk ρ e) : IvOk ρ (e.setLo c) := by
  obtain ⟨eh, x, lo, hi, ne, km, kv, nm⟩ := e
  exact ⟨fun n hn => (by cases hn; exact meetLo_ok h k.lo), k.hi, k.ne, k.km, k.nm⟩
theorem setIs_ok {c : Int} {e : Iv} (h : e.x.int ρ = c) (k : IvOk ρ e) : IvOk ρ (e.setIs c) := by
  obtain ⟨eh, x, lo, hi, ne, km, kv, nm⟩ := e
  replace h : x.int ρ = c := h
  exact ⟨fun n hn => (by cases hn; show c ≤ x.int ρ; omega), fun n hn => (by cases hn; show x.int ρ ≤ c; omega), k.ne, k.km, k.nm⟩
theorem setNe_ok {c : Int} {e : Iv} (h : e.x.int ρ ≠ c) (k : IvOk ρ e) : IvOk ρ (e.setNe c) := by
  obtain ⟨eh, x, lo, hi, ne, km, kv, nm⟩ := e
  exact ⟨k.lo, k.hi, fun n hn => (by rcases List.mem_cons.1 hn with rfl | hn <;> first | exact h | exact k.ne n hn), k.km, k.nm⟩
theorem setMt_ok {m v : Nat} {e : Iv} (h : mtV m v (e.x.int ρ) = true) (k : IvOk ρ e) : IvOk ρ (e.setMt m v) := by
  obtain ⟨eh, x, lo, hi, ne, km, kv, nm⟩ := e
  refine ⟨k.lo, k.hi, k.ne, ?_, k.nm⟩
  have hk : W (x.int ρ) &&& km = kv := k.km
  have hm : W (x.int ρ) &&& m = v := by
    have : mtV m v (x.int ρ) = true := h
    rw [mtV_eq] at this
    simpa using this
  show W (x.int ρ) &&& (km ||| m) = kv ||| (v &&& m)
  rw [Nat.and_or_distrib_left, hk, hm]
  have : v &&& m = v := by rw [← hm, Nat.and_assoc, Nat.and_self]
  rw [this]
theorem setNm_ok {m v : Nat} {e : Iv} (h : mtV m v (e.x.int ρ) = false) (k : IvOk ρ e) : IvOk ρ (e.setNm m v) := by
  obtain ⟨eh, x, lo, hi, ne, km, kv, nm⟩ := e
  exact ⟨k.lo, k.hi, k.ne, k.km, fun n hn => (by rcases List.mem_cons.1 hn with rfl | hn <;> first | exact h | exact k.nm n hn)⟩
theorem addF_ok (ok : PcOk ρ pc) {e : SE} {t : Bool} (h : e.tru ρ = t) : PcOk ρ (pc.addF e t) := by
  obtain ⟨bd, fb, iv, fs, cs, bad⟩ := pc
  exact ⟨ok.bd, ok.fb, ok.iv, fun f hf => (by rcases List.mem_cons.1 hf with rfl | hf <;> first | exact h | exact ok.fs f hf), ok.cs, ok.good⟩
theorem addC_ok (ok : PcOk ρ pc) {e : SE} {t : Bool} (h : e.tru ρ = t) : PcOk ρ (pc.addC e t) := by
  obtain ⟨bd, fb, iv, fs, cs, bad⟩ := pc
  exact ⟨ok.bd, ok.fb, ok.iv, ok.fs, fun f hf => (by rcases List.mem_cons.1 hf with rfl | hf <;> first | exact h | exact ok.cs f hf), ok.good⟩
theorem oneBit_ok {m v : Nat} {x : Int} (h1 : oneBit m = true) (h2 : v &&& m = v) (h : mtV m v x = false) : mtV m (m - v) x = true := by
  unfold oneBit at h1
  split at h1
  · rename_i k hk
    have hm : m = 2 ^ k := by
      have := logI_ok hk
      have e : (2 : Int) ^ k = ((2 ^ k : Nat) : Int) := by simp
      rw [e] at this
      exact Int.ofNat.inj this
    have two : ∀ u : Nat, u &&& 2 ^ k = 0 ∨ u &&& 2 ^ k = 2 ^ k := by
      intro u
      cases hb : u.testBit k
      · left
        apply Nat.eq_of_testBit_eq
        intro i
        rw [Nat.testBit_and, Nat.testBit_two_pow, Nat.zero_testBit]
        by_cases e : k = i
        · subst e; simp [hb]
        · simp [e]
      · right
        apply Nat.eq_of_testBit_eq
        intro i
        rw [Nat.testBit_and, Nat.testBit_two_pow]
        by_cases e : k = i
        · subst e; simp [hb]
        · simp [e]
    have hp := Nat.two_pow_pos k
    rw [mtV_eq] at h ⊢
    have h : W x &&& m ≠ v := by simpa using h
    have goal : W x &&& m = m - v := by
      rw [hm] at h2 h ⊢
      rcases two v with e | e <;> rcases two (W x) with q | q <;> omega
    simpa using goal
  · cases h1
theorem putAtom_ok (ok : PcOk ρ pc) {e : SE} {t : Bool} (h : e.tru ρ = t) : PcOk ρ (putAtom pc e t) := by
  unfold putAtom
  split
  · rename_i x c
    have h : decide (x.int ρ < c) = t := h
    split
    · have h := of_decide_eq_true h
      exact upd_ok ok fun e he k => setHi_ok (by rw [he]; omega) k
    · have h := of_decide_eq_false h
      exact upd_ok ok fun e he k => setLo_ok (by rw [he]; omega) k
  · rename_i x c
    have h : (x.int ρ == c) = t := h
    split
    · have h : x.int ρ = c := by simpa using h
      exact upd_ok ok fun e he k => setIs_ok (by rw [he]; exact h) k
    · have h : x.int ρ ≠ c := by simpa using h
      exact upd_ok ok fun e he k => setNe_ok (by rw [he]; exact h) k
  · rename_i m v x _
    have h : mtV m v (x.int ρ) = t := h
    split
    · exact upd_ok ok fun e he k => setMt_ok (by rw [he]; exact h) k
    · split
      · rename_i h1
        simp only [Bool.and_eq_true] at h1
        have := oneBit_ok h1.1 (Nat.eq_of_beq_eq_true h1.2) h
        exact upd_ok ok fun e he k => setMt_ok (by rw [he]; exact this) k
      · exact upd_ok ok fun e he k => setNm_ok (by rw [he]; exact h) k
  · exact addF_ok ok h
theorem atomS_ok (ok : PcOk ρ pc) {e : SE} {t : Bool} (h : e.tru ρ = t) : PcOk ρ (atomS pc e t) := by
  unfold atomS
  split
  · rename_i b hb
    split
    · exact ok
    · rename_i hc
      have := dec_ok ok hb
      rw [h] at this
      subst this
      simp at hc
  · exact putAtom_ok ok h
end
section
variable {ρ : Env}
theorem assume0_ok : ∀ {e : SE} {t : Bool} {pc : PC}, PcOk ρ pc → e.tru ρ = t → PcOk ρ (assume0 pc e t) := by
  intro e
  induction e with
  | un o a ih =>
    intro t pc h he
    unfold assume0
    cases o with
    | not => exact ih h (by have : (!(a.tru ρ)) = t := he; rw [← this]; simp)
    | _ => exact atomS_ok h he
  | bin o a b iha ihb =>
    intro t pc h he
    unfold assume0
    cases o with
    | and =>
      cases t with
      | true =>
        have : (a.tru ρ && b.tru ρ) = true := he
        simp only [Bool.and_eq_true] at this
        exact ihb (iha h this.1) this.2
      | false =>
        have hb : (a.tru ρ && b.tru ρ) = false := he
        simp only []
        split
        · rename_i hd; rw [dec_ok h hd] at hb; exact ihb h (by simpa using hb)
        · exact h
        · split
          · rename_i hd; rw [dec_ok h hd] at hb; exact iha h (by simpa using hb)
          · exact h
          · exact addC_ok h he
    | or =>
      cases t with
      | false =>
        have : (a.tru ρ || b.tru ρ) = false := he
        simp only [Bool.or_eq_false_iff] at this
        exact ihb (iha h this.1) this.2
      | true =>
        have hb : (a.tru ρ || b.tru ρ) = true := he
        simp only []
        split
        · rename_i hd; rw [dec_ok h hd] at hb; exact ihb h (by simpa using hb)
        · exact h
        · split
          · rename_i hd; rw [dec_ok h hd] at hb; exact iha h (by simpa using hb)
          · exact h
          · exact addC_ok h he
    | beq => exact addC_ok h he
    | _ => exact atomS_ok h he
  | bite c a b _ _ _ => intro t pc h he; exact addC_ok h he
  | _ => intro t pc h he; exact atomS_ok h he
theorem derived_ok : ∀ {l keep : List Fact} {pc : PC}, PcOk ρ pc → (∀ f ∈ l, f.e.tru ρ = f.t) → (∀ f ∈ keep, f.e.tru ρ = f.t) → PcOk ρ (derived l pc keep)
  | [], keep, ⟨bd, fb, iv, fs, cs, bad⟩, h, _, hk => ⟨h.bd, h.fb, h.iv, h.fs, fun f hf => (by rcases List.mem_append.1 hf with hf | hf; exact hk f hf; exact h.cs f hf), h.good⟩
  | f :: r, keep, pc, h, hl, hk => by
    have hr : ∀ f ∈ r, f.e.tru ρ = f.t := fun c hc => hl c (List.mem_cons_of_mem _ hc)
    have h0 := hl f List.mem_cons_self
    have hf : ∀ g ∈ f :: keep, g.e.tru ρ = g.t := fun g hg => by rcases List.mem_cons.1 hg with rfl | hg; exact h0; exact hk g hg
    unfold derived
    split
    · rename_i o a b he
      rw [he] at h0
      split
      · rename_i ht
        rw [ht] at h0
        have h0 : (a.tru ρ && b.tru ρ) = false := h0
        split
        · rename_i ha hb; rw [dec_ok h ha, dec_ok h hb] at h0; cases h0
        · rename_i ha hb; rw [dec_ok h ha] at h0; exact derived_ok (assume0_ok h (by simpa using h0)) hr hk
        · rename_i ha hb; rw [dec_ok h hb] at h0; exact derived_ok (assume0_ok h (by simpa using h0)) hr hk
        · exact derived_ok h hr hf
        · exact derived_ok h hr hk
      · rename_i ht
        rw [ht] at h0
        have h0 : (a.tru ρ || b.tru ρ) = true := h0
        split
        · rename_i ha hb; rw [dec_ok h ha, dec_ok h hb] at h0; cases h0
        · rename_i ha hb; rw [dec_ok h ha] at h0; exact derived_ok (assume0_ok h (by simpa using h0)) hr hk
        · rename_i ha hb; rw [dec_ok h hb] at h0; exact derived_ok (assume0_ok h (by simpa using h0)) hr hk
        · exact derived_ok h hr hf
        · exact derived_ok h hr hk
      · have h0 : (a.tru ρ == b.tru ρ) = f.t := h0
        split
        · rename_i x y hx hy
          rw [dec_ok h hx, dec_ok h hy] at h0
          split
          · exact derived_ok h hr hk
          · rename_i hc; rw [h0] at hc; simp at hc
        · rename_i x hx hy
          rw [dec_ok h hx] at h0
          exact derived_ok (assume0_ok h (by rw [← h0]; cases x <;> cases b.tru ρ <;> rfl)) hr hk
        · rename_i y hx hy
          rw [dec_ok h hy] at h0
          exact derived_ok (assume0_ok h (by rw [← h0]; cases y <;> cases a.tru ρ <;> rfl)) hr hk
        · exact derived_ok h hr hf
      · exact derived_ok h hr hf
    · rename_i c a b he
      rw [he] at h0
      have h0 : (if c.tru ρ then a.tru ρ else b.tru ρ) = f.t := h0
      split
      · rename_i hc; rw [dec_ok h hc] at h0; exact derived_ok (assume0_ok h h0) hr hk
      · rename_i hc; rw [dec_ok h hc] at h0; exact derived_ok (assume0_ok h h0) hr hk
      · exact derived_ok h hr hf
    · exact derived_ok h hr hf
theorem more_ok {pc : PC} (h : PcOk ρ pc) : PcOk ρ (more pc) := by
  obtain ⟨bd, fb, iv, fs, cs, bad⟩ := pc
  unfold more
  simp only []
  split
  · exact h
  · exact derived_ok ⟨h.bd, h.fb, h.iv, h.fs, (by intro f hf; cases hf), h.good⟩ h.cs (by intro f hf; cases hf)
theorem assume_ok {e : SE} {t : Bool} {pc : PC} (h : PcOk ρ pc) (he : e.tru ρ = t) : PcOk ρ (assume pc e t) := more_ok (more_ok (assume0_ok h he))
theorem proveB_ok {pc : PC} {r : PC → Bool} {G : Prop} (h : PcOk ρ pc) (hr : r pc = true → G) (hp : proveB pc r = true) : G := by
  unfold proveB at hp
  split at hp
  · rename_i hb; rw [h.good] at hb; cases hb
  · exact hr hp
theorem prove_ok {e : SE} : ∀ (n : Nat) {pc : PC}, PcOk ρ pc → prove e n pc = true → e.tru ρ = true
  | 0, _, _, h => by cases h
  | n + 1, pc, hp, h => by
    unfold prove at h
    split at h
    · rename_i hd; exact dec_ok hp hd
    · cases h
    · split at h
      · cases h
      · rename_i a _
        split at h
        · rename_i h1
          cases ht : a.tru ρ
          · exact proveB_ok (assume_ok hp ht) (fun h => prove_ok n (assume_ok hp ht) h) h
          · exact proveB_ok (assume_ok hp ht) (fun h => prove_ok n (assume_ok hp ht) h) h1
        · cases h
/-! ### one knows all that another knows -/
theorem trpSame_eq : ∀ {l m : List (Nat × Int × Int)}, trpSame l m = true → l = m
  | [], [], _ => rfl
  | (i, a, b) :: r, (i', a', b') :: r', h => by
    simp only [trpSame, Bool.and_eq_true] at h
    rw [Nat.eq_of_beq_eq_true h.1, intSame_eq h.2.1, intSame_eq h.2.2.1, trpSame_eq h.2.2.2]
  | [], _ :: _, h => by cases h
  | _ :: _, [], h => by cases h
theorem allMem_ok {l : List Int} : ∀ {m : List Int}, allMem l m = true → ∀ k ∈ m, k ∈ l
  | [], _, k, hk => by cases hk
  | x :: r, h, k, hk => by
    unfold allMem at h
    split at h
    · rename_i hx
      rcases List.mem_cons.1 hk with rfl | hk
      · exact mem_ok hx
      · exact allMem_ok h k hk
    · cases h
theorem ivSub_ok {p : PC} (h : PcOk ρ p) {e2 : Iv} (hs : e2.sub p = true) : IvOk ρ e2 := by
  unfold Iv.sub at hs
  split at hs
  · cases hs
  · rename_i e1 he
    obtain ⟨h1, hx⟩ := findIv_ok he
    have k := h.iv _ h1
    simp only [Bool.and_eq_true] at hs
    obtain ⟨s1, s2, s3, s4, s5, s6⟩ := hs
    refine ⟨fun n hn => ?_, fun n hn => ?_, fun n hn => ?_, ?_, fun q hq => ?_⟩
    · rw [hn] at s1
      split at s1
      · exact absurd ‹some n = none› (by simp)
      · rename_i a b hb ha; cases hb; have := intLe_le s1; have := k.lo _ ha; rw [hx] at this; omega
      · cases s1
    · rw [hn] at s2
      split at s2
      · exact absurd ‹some n = none› (by simp)
      · rename_i a b hb ha; cases hb; have := intLe_le s2; have := k.hi _ ha; rw [hx] at this; omega
      · cases s2
    · have := k.ne _ (allMem_ok s3 n hn); rw [hx] at this; exact this
    · have s4 : e2.km &&& e1.km = e2.km := Nat.eq_of_beq_eq_true s4
      have s5 : e1.kv &&& e2.km = e2.kv := Nat.eq_of_beq_eq_true s5
      have := k.km
      rw [hx] at this
      rw [← s5, ← this, Nat.and_assoc, Nat.and_comm e1.km, s4]
    · have := pairSame_eq s6
      rw [← this] at hq
      have := k.nm _ hq
      rw [hx] at this
      exact this
theorem subIv_ok {p : PC} (h : PcOk ρ p) : ∀ {l : List Iv}, subIv p l = true → ∀ e ∈ l, IvOk ρ e
  | [], _, e, he => by cases he
  | x :: r, hs, e, he => by
    unfold subIv at hs
    split at hs
    · rename_i hx
      rcases List.mem_cons.1 he with rfl | he
      · exact ivSub_ok h hx
      · exact subIv_ok h hs e he
    · cases hs
theorem subFs_ok {p : PC} (h : PcOk ρ p) : ∀ {l : List Fact}, subFs p l = true → ∀ f ∈ l, f.e.tru ρ = f.t
  | [], _, e, he => by cases he
  | x :: r, hs, e, he => by
    unfold subFs at hs
    split at hs
    · rename_i b hb
      split at hs
      · rename_i hc
        rcases List.mem_cons.1 he with rfl | he
        · rw [dec_ok h hb]; simpa using hc
        · exact subFs_ok h hs e he
      · cases hs
    · cases hs
theorem subPc_ok {p1 p2 : PC} (h : PcOk ρ p1) (hs : subPc p1 p2 = true) : PcOk ρ p2 := by
  simp only [subPc, Bool.and_eq_true, Bool.not_eq_true'] at hs
  obtain ⟨s1, s2, s3, s4, s5, s6⟩ := hs
  refine ⟨?_, ?_, subIv_ok h s3, subFs_ok h s4, subFs_ok h s5, s6⟩
  · rw [← trpSame_eq s1]; exact h.bd
  · rw [← trpSame_eq s2]; exact h.fb
end
end Go.Proofs.Ytopfaapcekiojaa.Sym
