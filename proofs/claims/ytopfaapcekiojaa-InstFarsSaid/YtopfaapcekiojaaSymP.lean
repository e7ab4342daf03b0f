/- Contracts by runs: a function is run once over letters; what it gives is what it gives of whatever stands for the letters. -/
import Derived.Test.YtopfaapcekiojaaSymK
namespace Go.Proofs.Ytopfaapcekiojaa.Sym
open Go Go.RowKit Go.Proofs.Ytopfaapcekiojaa
noncomputable section

abbrev Sub := List (Nat × SE)
def subI (σ : Sub) (i : Nat) : SE := match lk σ i with
  | some e => e
  | none => .var i
def subB (σ : Sub) (i : Nat) : SE := match lk σ i with
  | some e => e
  | none => .bvar i
def SE.sub (pc : PC) (σ τ : Sub) : SE → SE
  | .lit n => .lit n
  | .var i => subI σ i
  | .bvar i => subB τ i
  | .tt => .tt
  | .ff => .ff
  | .un o a => match o with
    | .wrap k => mkWrap pc k (a.sub pc σ τ)
    | .shr n => mkShr pc n (a.sub pc σ τ)
    | .b2i => mkB2i (a.sub pc σ τ)
    | .not => mkNot (a.sub pc σ τ)
    | .bits l n => mkBits pc l n (a.sub pc σ τ)
    | .sext n => mkSext pc n (a.sub pc σ τ)
  | .bin o a b => match o with
    | .eq => mkEq pc (a.sub pc σ τ) (b.sub pc σ τ)
    | .lt => mkLt pc (a.sub pc σ τ) (b.sub pc σ τ)
    | .le => mkLe pc (a.sub pc σ τ) (b.sub pc σ τ)
    | .and => mkAnd (a.sub pc σ τ) (b.sub pc σ τ)
    | .or => mkOr (a.sub pc σ τ) (b.sub pc σ τ)
    | .beq => mkBeq (a.sub pc σ τ) (b.sub pc σ τ)
    | .mt m v => mkMt pc m v (a.sub pc σ τ)
    | .add => mkAdd pc (a.sub pc σ τ) (b.sub pc σ τ)
    | .sub => mkSub (a.sub pc σ τ) (b.sub pc σ τ)
    | .mul => mkMul (a.sub pc σ τ) (b.sub pc σ τ)
    | .quo => match b.sub pc σ τ with
      | .lit m => mkQuo pc (a.sub pc σ τ) m
      | y => mkInt .quo (a.sub pc σ τ) y
    | .rem => match b.sub pc σ τ with
      | .lit m => mkRem pc (a.sub pc σ τ) m
      | y => mkInt .rem (a.sub pc σ τ) y
    | .band k => mkBand pc k (a.sub pc σ τ) (b.sub pc σ τ)
    | .bor k => mkBor pc k (a.sub pc σ τ) (b.sub pc σ τ)
    | .cat m => mkCat pc m (a.sub pc σ τ) (b.sub pc σ τ)
    | o => mkInt o (a.sub pc σ τ) (b.sub pc σ τ)
  | .ite c a b => mkIte (c.sub pc σ τ) (a.sub pc σ τ) (b.sub pc σ τ)
  | .bite c a b => mkBite (c.sub pc σ τ) (a.sub pc σ τ) (b.sub pc σ τ)
  | .app f a b c d => .app f (a.sub pc σ τ) (b.sub pc σ τ) (c.sub pc σ τ) (d.sub pc σ τ)
  | .papp f a b c d => .papp f (a.sub pc σ τ) (b.sub pc σ τ) (c.sub pc σ τ) (d.sub pc σ τ)
/-- of one kind throughout: (a number, a truth) -/
def SE.ws : SE → Bool × Bool
  | .lit _ | .var _ => (true, false)
  | .bvar _ | .tt | .ff => (false, true)
  | .un o a => match o with
    | .wrap _ | .shr _ | .bits _ _ | .sext _ => (a.ws.1, false)
    | .b2i => (a.ws.2, false)
    | .not => (false, a.ws.2)
  | .bin o a b => match o with
    | .eq | .lt | .le => (false, a.ws.1 && b.ws.1)
    | .and | .or | .beq => (false, a.ws.2 && b.ws.2)
    | .mt _ _ => (false, a.ws.1)
    | _ => (a.ws.1 && b.ws.1, false)
  | .ite c a b => (c.ws.2 && (a.ws.1 && b.ws.1), false)
  | .bite c a b => (false, c.ws.2 && (a.ws.2 && b.ws.2))
  | .app _ a b c d => (a.ws.1 && (b.ws.1 && (c.ws.1 && d.ws.1)), false)
  | .papp _ a b c d => (false, a.ws.1 && (b.ws.1 && (c.ws.1 && d.ws.1)))
/-- what the letters stand for, put in -/
def Env.put (ρ : Env) (σ τ : Sub) : Env := { ρ with i := fun i => (subI σ i).int ρ, b := fun i => (subB τ i).tru ρ }
theorem sub_ok' {pc : PC} {ρ : Env} (ok : PcOk ρ pc) (σ τ : Sub) : ∀ e : SE, (e.ws.1 = true → (e.sub pc σ τ).int ρ = e.int (ρ.put σ τ)) ∧ (e.ws.2 = true → (e.sub pc σ τ).tru ρ = e.tru (ρ.put σ τ)) := by
  intro e
  induction e with
  | lit n => exact ⟨fun _ => rfl, fun h => by cases h⟩
  | var i => exact ⟨fun _ => rfl, fun h => by cases h⟩
  | bvar i => exact ⟨fun h => (by cases h), fun _ => rfl⟩
  | tt => exact ⟨fun h => (by cases h), fun _ => rfl⟩
  | ff => exact ⟨fun h => (by cases h), fun _ => rfl⟩
  | un o a ih =>
    cases o with
    | wrap k => exact ⟨fun h => by show (mkWrap pc k _).int ρ = k.wrap (a.int _); rw [mkWrap_ok ok, ih.1 h], fun h => by cases h⟩
    | shr n => exact ⟨fun h => by show (mkShr pc n _).int ρ = _; rw [mkShr_ok ok, shr_int, ih.1 h], fun h => by cases h⟩
    | bits l n => exact ⟨fun h => by show (mkBits pc l n _).int ρ = _; rw [mkBits_ok ok, bits_int, ih.1 h], fun h => by cases h⟩
    | sext n => exact ⟨fun h => by show (mkSext pc n _).int ρ = _; rw [mkSext_ok ok, sext_int, ih.1 h], fun h => by cases h⟩
    | b2i => exact ⟨fun h => by show (mkB2i _).int ρ = if a.tru _ then 1 else 0; rw [mkB2i_ok, ih.2 h], fun h => by cases h⟩
    | not => exact ⟨fun h => (by cases h), fun h => by show (mkNot _).tru ρ = !(a.tru _); rw [mkNot_ok, ih.2 h]⟩
  | bin o a b iha ihb =>
    have two : ∀ {p q : Bool}, (p && q) = true → p = true ∧ q = true := fun h => by simpa using h
    cases o with
    | eq => exact ⟨fun h => (by cases h), fun h => by have h := two h; show (mkEq pc _ _).tru ρ = (a.int _ == b.int _); rw [mkEq_ok ok, iha.1 h.1, ihb.1 h.2]⟩
    | lt => exact ⟨fun h => (by cases h), fun h => by have h := two h; show (mkLt pc _ _).tru ρ = decide (a.int _ < b.int _); rw [mkLt_ok ok, iha.1 h.1, ihb.1 h.2]⟩
    | le => exact ⟨fun h => (by cases h), fun h => by have h := two h; show (mkLe pc _ _).tru ρ = decide (a.int _ ≤ b.int _); rw [mkLe_ok ok, iha.1 h.1, ihb.1 h.2]⟩
    | and => exact ⟨fun h => (by cases h), fun h => by have h := two h; show (mkAnd _ _).tru ρ = (a.tru _ && b.tru _); rw [mkAnd_ok, iha.2 h.1, ihb.2 h.2]⟩
    | or => exact ⟨fun h => (by cases h), fun h => by have h := two h; show (mkOr _ _).tru ρ = (a.tru _ || b.tru _); rw [mkOr_ok, iha.2 h.1, ihb.2 h.2]⟩
    | beq => exact ⟨fun h => (by cases h), fun h => by have h := two h; show (mkBeq _ _).tru ρ = (a.tru _ == b.tru _); rw [mkBeq_ok, iha.2 h.1, ihb.2 h.2]⟩
    | mt m v => exact ⟨fun h => (by cases h), fun h => by show (mkMt pc m v _).tru ρ = mtV m v (a.int _); rw [mkMt_ok ok, iha.1 h]⟩
    | add => exact ⟨fun h => by have h := two h; show (mkAdd pc _ _).int ρ = _; rw [mkAdd_ok ok, iha.1 h.1, ihb.1 h.2]; rfl, fun h => by cases h⟩
    | sub => exact ⟨fun h => by have h := two h; show (mkSub _ _).int ρ = _; rw [mkSub_ok, iha.1 h.1, ihb.1 h.2]; rfl, fun h => by cases h⟩
    | mul => exact ⟨fun h => by have h := two h; show (mkMul _ _).int ρ = _; rw [mkMul_ok, iha.1 h.1, ihb.1 h.2]; rfl, fun h => by cases h⟩
    | quo =>
      refine ⟨fun h => ?_, fun h => by cases h⟩
      have h := two h
      have hb := ihb.1 h.2
      show (match b.sub pc σ τ with | .lit m => mkQuo pc (a.sub pc σ τ) m | y => mkInt .quo (a.sub pc σ τ) y).int ρ = (a.int _).tdiv (b.int _)
      rw [← hb, ← iha.1 h.1]
      split
      · rename_i m hm; rw [mkQuo_ok ok, hm]; rfl
      · rw [mkInt_ok]; rfl
    | rem =>
      refine ⟨fun h => ?_, fun h => by cases h⟩
      have h := two h
      have hb := ihb.1 h.2
      show (match b.sub pc σ τ with | .lit m => mkRem pc (a.sub pc σ τ) m | y => mkInt .rem (a.sub pc σ τ) y).int ρ = (a.int _).tmod (b.int _)
      rw [← hb, ← iha.1 h.1]
      split
      · rename_i m hm; rw [mkRem_ok ok, hm]; rfl
      · rw [mkInt_ok]; rfl
    | band k => exact ⟨fun h => by have h := two h; show (mkBand pc k _ _).int ρ = _; rw [mkBand_ok ok, iha.1 h.1, ihb.1 h.2]; rfl, fun h => by cases h⟩
    | bor k => exact ⟨fun h => by have h := two h; show (mkBor pc k _ _).int ρ = _; rw [mkBor_ok ok, iha.1 h.1, ihb.1 h.2]; rfl, fun h => by cases h⟩
    | cat m => exact ⟨fun h => by have h := two h; show (mkCat pc m _ _).int ρ = _; rw [mkCat_ok ok, iha.1 h.1, ihb.1 h.2]; rfl, fun h => by cases h⟩
    | bxor k => exact ⟨fun h => by have h := two h; show (mkInt _ _ _).int ρ = _; rw [mkInt_ok, iha.1 h.1, ihb.1 h.2]; rfl, fun h => by cases h⟩
    | bclr k => exact ⟨fun h => by have h := two h; show (mkInt _ _ _).int ρ = _; rw [mkInt_ok, iha.1 h.1, ihb.1 h.2]; rfl, fun h => by cases h⟩
  | ite c a b ihc iha ihb =>
    refine ⟨fun h => ?_, fun h => by cases h⟩
    simp only [SE.ws, Bool.and_eq_true] at h
    show (mkIte _ _ _).int ρ = if c.tru _ then a.int _ else b.int _
    rw [mkIte_ok, ihc.2 h.1, iha.1 h.2.1, ihb.1 h.2.2]
  | bite c a b ihc iha ihb =>
    refine ⟨fun h => (by cases h), fun h => ?_⟩
    simp only [SE.ws, Bool.and_eq_true] at h
    show (mkBite _ _ _).tru ρ = if c.tru _ then a.tru _ else b.tru _
    rw [mkBite_ok, ihc.2 h.1, iha.2 h.2.1, ihb.2 h.2.2]
  | app f a b c d iha ihb ihc ihd =>
    refine ⟨fun h => ?_, fun h => by cases h⟩
    simp only [SE.ws, Bool.and_eq_true] at h
    show ρ.f f _ _ _ _ = ρ.f f (a.int _) (b.int _) (c.int _) (d.int _)
    rw [← iha.1 h.1, ← ihb.1 h.2.1, ← ihc.1 h.2.2.1, ← ihd.1 h.2.2.2]
    rfl
  | papp f a b c d iha ihb ihc ihd =>
    refine ⟨fun h => (by cases h), fun h => ?_⟩
    simp only [SE.ws, Bool.and_eq_true] at h
    show ρ.p f _ _ _ _ = ρ.p f (a.int _) (b.int _) (c.int _) (d.int _)
    rw [← iha.1 h.1, ← ihb.1 h.2.1, ← ihc.1 h.2.2.1, ← ihd.1 h.2.2.2]
    rfl
/-- a cell that a result may hold -/
def SC.wsC : SC → Bool
  | .int _ e => e.ws.1
  | .bool e => e.ws.2
  | .str _ | .nilp | .nils | .nilf | .strv _ | .var _ => true
  | _ => false
def SC.sub (pc : PC) (σ τ : Sub) : SC → SC
  | .int k e => .int k (e.sub pc σ τ)
  | .bool e => .bool (e.sub pc σ τ)
  | x => x
def subL (pc : PC) (σ τ : Sub) : List SC → List SC
  | [] => []
  | x :: r => x.sub pc σ τ :: subL pc σ τ r
def SP.sub (pc : PC) (σ τ : Sub) : SP → SP
  | .c x => .c (x.sub pc σ τ)
  | .agg l => .agg (subL pc σ τ l)
def subP (pc : PC) (σ τ : Sub) : List SP → List SP
  | [] => []
  | x :: r => x.sub pc σ τ :: subP pc σ τ r
def SV.sub (pc : PC) (σ τ : Sub) : SV → SV
  | .p x => .p (x.sub pc σ τ)
  | .tup l => .tup (subP pc σ τ l)
  | v => v
def wsL : List SC → Bool
  | [] => true
  | x :: r => x.wsC && wsL r
def SP.wsP : SP → Bool
  | .c x => x.wsC
  | .agg l => wsL l
def wsPs : List SP → Bool
  | [] => true
  | x :: r => x.wsP && wsPs r
def SV.wsV : SV → Bool
  | .p x => x.wsP
  | .tup l => wsPs l
  | _ => false
section
variable {pc : PC} {ρ : Env} (ok : PcOk ρ pc) (σ τ : Sub) {β β' : Lay}
include ok
theorem SC.sub_den {x : SC} (h : x.wsC = true) : (x.sub pc σ τ).den ρ β = x.den (ρ.put σ τ) β' := by
  cases x <;> first | (cases h; done) | rfl | skip
  · rename_i k e; show some (Value.int k _) = some (Value.int k _); rw [(sub_ok' ok σ τ e).1 h]
  · rename_i e; show some (Value.bool _) = some (Value.bool _); rw [(sub_ok' ok σ τ e).2 h]
theorem subL_den : ∀ {l : List SC}, wsL l = true → denL ρ β (subL pc σ τ l) = denL (ρ.put σ τ) β' l
  | [], _ => rfl
  | x :: r, h => by
    simp only [wsL, Bool.and_eq_true] at h
    show (match (x.sub pc σ τ).den ρ β, denL ρ β (subL pc σ τ r) with | some v, some l => some (v :: l) | _, _ => none) = _
    rw [SC.sub_den ok σ τ (β' := β') h.1, subL_den h.2]
    rfl
theorem SP.sub_den {x : SP} (h : x.wsP = true) : (x.sub pc σ τ).den ρ β = x.den (ρ.put σ τ) β' := by
  cases x with
  | c x => exact SC.sub_den ok σ τ h
  | agg l => show (denL ρ β (subL pc σ τ l)).map _ = (denL _ β' l).map _; rw [subL_den ok σ τ (β' := β') h]
theorem subP_den : ∀ {l : List SP}, wsPs l = true → denP ρ β (subP pc σ τ l) = denP (ρ.put σ τ) β' l
  | [], _ => rfl
  | x :: r, h => by
    simp only [wsPs, Bool.and_eq_true] at h
    show (match (x.sub pc σ τ).den ρ β, denP ρ β (subP pc σ τ r) with | some v, some l => some (v :: l) | _, _ => none) = _
    rw [SP.sub_den ok σ τ (β' := β') h.1, subP_den h.2]
    rfl
theorem SV.sub_den {x : SV} (h : x.wsV = true) : (x.sub pc σ τ).den ρ β = x.den (ρ.put σ τ) β' := by
  cases x with
  | p x => exact SP.sub_den ok σ τ h
  | tup l => show (denP ρ β (subP pc σ τ l)).map _ = (denP _ β' l).map _; rw [subP_den ok σ τ (β' := β') h]
  | undef => cases h
  | gd c x => cases h
end
/-! ### matching -/
def free1 (σ : Sub) (i : Nat) : Bool := match lk σ i with
  | some _ => false
  | none => true
def matchC : SC → SC → Sub × Sub → Option (Sub × Sub)
  | .int k p, a, (σ, τ) => match p, a with
    | .var i, .int k' e => match kSame k k' && free1 σ i with
      | true => some ((i, e) :: σ, τ)
      | false => none
    | .lit n, .int k' (.lit m) => match kSame k k' && intSame n m with
      | true => some (σ, τ)
      | false => none
    | _, _ => none
  | .bool p, a, (σ, τ) => match p, a with
    | .bvar i, .bool e => match free1 τ i with
      | true => some (σ, (i, e) :: τ)
      | false => none
    | .tt, .bool .tt => some (σ, τ)
    | .ff, .bool .ff => some (σ, τ)
    | _, _ => none
  | .str s, a, x => match (SC.str s).same a with
    | true => some x
    | false => none
  | .nils, .nils, x => some x
  | .nilf, .nilf, x => some x
  | .nilp, .nilp, x => some x
  | _, _, _ => none
def matchL : List SC → List SC → Sub × Sub → Option (Sub × Sub)
  | [], [], x => some x
  | p :: r, a :: s, x => match matchC p a x with
    | some y => matchL r s y
    | none => none
  | _, _, _ => none
def matchP : SP → SP → Sub × Sub → Option (Sub × Sub)
  | .c p, .c a, x => matchC p a x
  | .agg p, .agg a, x => matchL p a x
  | _, _, _ => none
def matchA : List SV → List SV → Sub × Sub → Option (Sub × Sub)
  | [], [], x => some x
  | .p p :: r, .p a :: s, x => match matchP p a x with
    | some y => matchA r s y
    | none => none
  | _, _, _ => none
def Sub.le (σ σ' : Sub) : Prop := ∀ i e, lk σ i = some e → lk σ' i = some e
theorem Sub.le_cons {σ : Sub} {i : Nat} (h : free1 σ i = true) (e : SE) : Sub.le σ ((i, e) :: σ) := by
  intro j f hj
  rw [lk_cons]
  by_cases q : j = i
  · subst q; unfold free1 at h; rw [hj] at h; cases h
  · rw [if_neg q]; exact hj
section
variable {ρ : Env} {β β' : Lay}
theorem matchC_le {p a : SC} {x y : Sub × Sub} (h : matchC p a x = some y) : Sub.le x.1 y.1 ∧ Sub.le x.2 y.2 := by
  unfold matchC at h
  split at h
  · split at h
    · split at h
      · rename_i hb; cases h; simp only [Bool.and_eq_true] at hb; exact ⟨Sub.le_cons hb.2 _, fun _ _ h => h⟩
      · cases h
    · split at h
      · cases h; exact ⟨fun _ _ h => h, fun _ _ h => h⟩
      · cases h
    · cases h
  · split at h
    · split at h
      · rename_i hb; cases h; exact ⟨fun _ _ h => h, Sub.le_cons hb _⟩
      · cases h
    · cases h; exact ⟨fun _ _ h => h, fun _ _ h => h⟩
    · cases h; exact ⟨fun _ _ h => h, fun _ _ h => h⟩
    · cases h
  · split at h
    · cases h; exact ⟨fun _ _ h => h, fun _ _ h => h⟩
    · cases h
  · cases h; exact ⟨fun _ _ h => h, fun _ _ h => h⟩
  · cases h; exact ⟨fun _ _ h => h, fun _ _ h => h⟩
  · cases h; exact ⟨fun _ _ h => h, fun _ _ h => h⟩
  · cases h
theorem matchC_den {p a : SC} {x y : Sub × Sub} (h : matchC p a x = some y) {σ τ : Sub} (hσ : Sub.le y.1 σ) (hτ : Sub.le y.2 τ) : p.den (ρ.put σ τ) β' = a.den ρ β := by
  unfold matchC at h
  split at h
  · split at h
    · rename_i i k' e
      split at h
      · rename_i hb
        cases h
        simp only [Bool.and_eq_true] at hb
        have hl := hσ i e (by rw [lk_cons, if_pos rfl])
        rw [kSame_eq hb.1]
        show some (Value.int _ (((subI σ i).int ρ))) = some (Value.int _ (e.int ρ))
        unfold subI
        rw [hl]
      · cases h
    · split at h
      · rename_i hb
        cases h
        simp only [Bool.and_eq_true] at hb
        rw [kSame_eq hb.1, intSame_eq hb.2]
        rfl
      · cases h
    · cases h
  · split at h
    · rename_i i e
      split at h
      · cases h
        have hl := hτ i e (by rw [lk_cons, if_pos rfl])
        show some (Value.bool (((subB τ i).tru ρ))) = some (Value.bool (e.tru ρ))
        unfold subB
        rw [hl]
      · cases h
    · rfl
    · rfl
    · cases h
  · split at h
    · rename_i hs; rw [← SC.same_eq hs]; rfl
    · cases h
  · rfl
  · rfl
  · rfl
  · cases h
theorem matchL_le : ∀ {p a : List SC} {x y : Sub × Sub}, matchL p a x = some y → Sub.le x.1 y.1 ∧ Sub.le x.2 y.2
  | [], [], _, _, h => by cases h; exact ⟨fun _ _ h => h, fun _ _ h => h⟩
  | [], _ :: _, _, _, h => by cases h
  | _ :: _, [], _, _, h => by cases h
  | p :: r, a :: s, x, y, h => by
    unfold matchL at h
    split at h
    · rename_i z hz
      have h1 := matchC_le hz
      have h2 := matchL_le h
      exact ⟨fun i e h => h2.1 i e (h1.1 i e h), fun i e h => h2.2 i e (h1.2 i e h)⟩
    · cases h
theorem matchL_den : ∀ {p a : List SC} {x y : Sub × Sub}, matchL p a x = some y → ∀ {σ τ : Sub}, Sub.le y.1 σ → Sub.le y.2 τ → denL (ρ.put σ τ) β' p = denL ρ β a
  | [], [], _, _, _, _, _, _, _ => rfl
  | [], _ :: _, _, _, h, _, _, _, _ => by cases h
  | _ :: _, [], _, _, h, _, _, _, _ => by cases h
  | p :: r, a :: s, x, y, h, σ, τ, hσ, hτ => by
    unfold matchL at h
    split at h
    · rename_i z hz
      have h2 := matchL_le h
      unfold denL
      rw [matchC_den (β := β) (β' := β') hz (fun i e q => hσ i e (h2.1 i e q)) (fun i e q => hτ i e (h2.2 i e q)), matchL_den h hσ hτ]
    · cases h
theorem matchP_le {p a : SP} {x y : Sub × Sub} (h : matchP p a x = some y) : Sub.le x.1 y.1 ∧ Sub.le x.2 y.2 := by
  unfold matchP at h
  split at h
  · exact matchC_le h
  · exact matchL_le h
  · cases h
theorem matchP_den {p a : SP} {x y : Sub × Sub} (h : matchP p a x = some y) {σ τ : Sub} (hσ : Sub.le y.1 σ) (hτ : Sub.le y.2 τ) : p.den (ρ.put σ τ) β' = a.den ρ β := by
  unfold matchP at h
  split at h
  · exact matchC_den h hσ hτ
  · show (denL _ β' _).map _ = (denL ρ β _).map _; rw [matchL_den (β := β) h hσ hτ]
  · cases h
theorem matchA_den : ∀ {p a : List SV} {x y : Sub × Sub}, matchA p a x = some y → (Sub.le x.1 y.1 ∧ Sub.le x.2 y.2) ∧ ∀ {σ τ : Sub}, Sub.le y.1 σ → Sub.le y.2 τ → denA (ρ.put σ τ) β' p = denA ρ β a
  | p, a, x, y, h => by
    unfold matchA at h
    split at h
    · cases h; exact ⟨⟨fun _ _ h => h, fun _ _ h => h⟩, fun _ _ => rfl⟩
    · rename_i z p r a s
      split at h
      · rename_i z' hz
        have h1 := matchP_le hz
        obtain ⟨h2, h3⟩ := matchA_den (p := r) (a := s) h
        refine ⟨⟨fun i e q => h2.1 i e (h1.1 i e q), fun i e q => h2.2 i e (h1.2 i e q)⟩, fun {σ τ} hσ hτ => ?_⟩
        unfold denA
        have e1 : (SV.p p).den (ρ.put σ τ) β' = (SV.p a).den ρ β := matchP_den hz (fun i e q => hσ i e (h2.1 i e q)) (fun i e q => hτ i e (h2.2 i e q))
        rw [e1, h3 hσ hτ]
      · cases h
    · cases h
end
/-- a function, letters and their bounds, what it gives of them -/
structure Tpl where
  f : FuncId
  bd : List (Nat × Int × Int)
  pat : List SV
  res : SV
def inBd (pc : PC) (σ : Sub) : List (Nat × Int × Int) → Bool
  | [] => true
  | (i, l, h) :: r => match lk σ i with
    | some e => match bnd pc e with
      | some (l', h') => match intLe l l' && intLe h' h with
        | true => inBd pc σ r
        | false => false
      | none => false
    | none => false
def tplSum (pc : PC) (t : Tpl) (args : List SV) : Option SV := match matchA t.pat args ([], []) with
  | some (σ, τ) => match inBd pc σ t.bd with
    | true => some (t.res.sub pc σ τ)
    | false => none
  | none => none
/-- the contracts of a function, by turns -/
def tplsSum (ts : List Tpl) (pc : PC) (H : List (Nat × Blk)) (args : List SV) : Option SV := match ts with
  | [] => none
  | t :: r => match tplSum pc t args with
    | some v => some v
    | none => tplsSum r pc H args
/-- all ends, as one -/
def mergeR : RTree → Option SV
  | .ret v _ => some v
  | .br c a b => match mergeR a with
    | some x => match mergeR b with
      | some y => mergeV c x y
      | none => none
    | none => none
  | .fail _ => none
  | .all a b => match mergeR a with
    | some x => match mergeR b with
      | some y => match x.same y with
        | true => some x
        | false => none
      | none => none
    | none => none
theorem mergeR_ok {ρ : Env} : ∀ {t : RTree} {v : SV}, mergeR t = some v → t.Holds ρ fun u _ => ∀ β y, u.den ρ β = some y → v.den ρ β = some y
  | .ret u H, v, h => by cases h; exact fun _ _ h => h
  | .br c a b, v, h => by
    unfold mergeR at h
    split at h
    · rename_i x hx
      split at h
      · rename_i y hy
        have ha := mergeR_ok (ρ := ρ) hx
        have hb := mergeR_ok (ρ := ρ) hy
        have mono : ∀ {Q Q' : SV → List (Nat × Blk) → Prop}, (∀ v H, Q v H → Q' v H) → ∀ {t : RTree}, t.Holds ρ Q → t.Holds ρ Q' := by
          intro Q Q' hq t
          induction t with
          | ret v H => exact hq v H
          | br c a b iha ihb =>
            intro h
            replace h : if c.tru ρ then a.Holds ρ Q else b.Holds ρ Q := h
            show if c.tru ρ then a.Holds ρ Q' else b.Holds ρ Q'
            split at h
            · rename_i hc; rw [if_pos hc]; exact iha h
            · rename_i hc; rw [if_neg hc]; exact ihb h
          | fail _ => exact id
          | all a b iha ihb => exact fun h => ⟨iha h.1, ihb h.2⟩
        show if c.tru ρ then a.Holds ρ _ else b.Holds ρ _
        cases ht : c.tru ρ
        · exact mono (fun u H hu β z hz => mergeV_ok h ht (by exact hu β z hz)) hb
        · exact mono (fun u H hu β z hz => mergeV_ok h ht (by exact hu β z hz)) ha
      · cases h
    · cases h
  | .fail _, v, h => by cases h
  | .all a b, v, h => by
    unfold mergeR at h
    split at h
    · rename_i x hx
      split at h
      · rename_i y hy
        split at h
        · rename_i hs
          cases h
          have := SV.same_eq hs
          subst this
          exact ⟨mergeR_ok hx, mergeR_ok hy⟩
        · cases h
      · cases h
    · cases h
def sameO (o : Option SV) (v : SV) : Bool := match o with
  | some u => u.same v
  | none => false
/-- a context that assumes bounds of letters alone -/
def bare (P : Program) (sums : Sums) (mrg : List FuncId) (bd : List (Nat × Int × Int)) : Ctx := { P := P, bd := bd, fb := [], sums := sums, mrg := mrg }
/-- the check of a contract: its run -/
def tplRun (P : Program) (sums : Sums) (mrg : List FuncId) (fuel : Nat) (t : Tpl) : Bool := t.res.wsV && sameO (mergeR (runF (bare P sums mrg t.bd) fuel t.f t.pat [] 0)) t.res
def tplRuns (P : Program) (sums : Sums) (mrg : List FuncId) (fuel : Nat) : List Tpl → Bool
  | [] => true
  | t :: r => match tplRun P sums mrg fuel t with
    | true => tplRuns P sums mrg fuel r
    | false => false
theorem bare_ok {P : Program} {sums : Sums} {mrg : List FuncId} {bd : List (Nat × Int × Int)} {ρ : Env} (h1 : ∀ i, (ρ.v i).oneCell' = true) (hm : P.follows .mixedOrders = true) (hb : ∀ i l h, lk bd i = some (l, h) → l ≤ ρ.i i ∧ ρ.i i ≤ h) : (bare P sums mrg bd).Ok ρ := ⟨hb, (by intro i l h e; cases e), h1, hm, (by intro p hp; cases hp)⟩
theorem inBd_ok {ρ : Env} {pc : PC} (ok : PcOk ρ pc) {σ τ : Sub} : ∀ {bd : List (Nat × Int × Int)}, inBd pc σ bd = true → ∀ i l h, lk bd i = some (l, h) → l ≤ (ρ.put σ τ).i i ∧ (ρ.put σ τ).i i ≤ h
  | [], _, i, l, h, e => by cases e
  | (j, l0, h0) :: r, hb, i, l, h, e => by
    unfold inBd at hb
    split at hb
    · rename_i x hx
      split at hb
      · rename_i l' h' hr
        split at hb
        · rename_i hc
          simp only [Bool.and_eq_true] at hc
          rw [lk_cons] at e
          split at e
          · rename_i q
            subst q
            cases e
            have := bnd_ok ok hr
            have k1 := intLe_le hc.1
            have k2 := intLe_le hc.2
            show l0 ≤ (subI σ i).int ρ ∧ (subI σ i).int ρ ≤ h0
            unfold subI
            rw [hx]
            simp only []
            omega
          · exact inBd_ok ok hb i l h e
        · cases hb
      · cases hb
    · cases hb
theorem wsV_den {ρ : Env} : ∀ {v : SV}, v.wsV = true → ∀ β, ∃ x, v.den ρ β = some x ∧ ∀ β', v.den ρ β' = some x := by
  have hc : ∀ {x : SC}, x.wsC = true → ∀ β, ∃ y, x.den ρ β = some y ∧ ∀ β', x.den ρ β' = some y := by
    intro x h β
    cases x <;> first | (cases h; done) | exact ⟨_, rfl, fun _ => rfl⟩
  have hl : ∀ {l : List SC}, wsL l = true → ∀ β, ∃ y, denL ρ β l = some y ∧ ∀ β', denL ρ β' l = some y := by
    intro l
    induction l with
    | nil => intro _ β; exact ⟨_, rfl, fun _ => rfl⟩
    | cons x r ih =>
      intro h β
      simp only [wsL, Bool.and_eq_true] at h
      obtain ⟨y, hy, hy'⟩ := hc h.1 β
      obtain ⟨z, hz, hz'⟩ := ih h.2 β
      exact ⟨y :: z, by unfold denL; rw [hy, hz], fun β' => by unfold denL; rw [hy', hz']⟩
  have hp : ∀ {x : SP}, x.wsP = true → ∀ β, ∃ y, x.den ρ β = some y ∧ ∀ β', x.den ρ β' = some y := by
    intro x h β
    cases x with
    | c x => exact hc h β
    | agg l =>
      obtain ⟨y, hy, hy'⟩ := hl h β
      exact ⟨.agg y.toArray, by simp [SP.den, hy], fun β' => by simp [SP.den, hy']⟩
  have hps : ∀ {l : List SP}, wsPs l = true → ∀ β, ∃ y, denP ρ β l = some y ∧ ∀ β', denP ρ β' l = some y := by
    intro l
    induction l with
    | nil => intro _ β; exact ⟨_, rfl, fun _ => rfl⟩
    | cons x r ih =>
      intro h β
      simp only [wsPs, Bool.and_eq_true] at h
      obtain ⟨y, hy, hy'⟩ := hp h.1 β
      obtain ⟨z, hz, hz'⟩ := ih h.2 β
      exact ⟨y :: z, by unfold denP; rw [hy, hz], fun β' => by unfold denP; rw [hy', hz']⟩
  intro v h β
  cases v with
  | p x => exact hp h β
  | tup l =>
    obtain ⟨y, hy, hy'⟩ := hps h β
    exact ⟨.tuple y.toArray, by simp [SV.den, hy], fun β' => by simp [SV.den, hy']⟩
  | undef => cases h
  | gd c x => cases h
/-- what is asked of the letters of functions stays so whatever stands for the other letters -/
def Keeps (G : Env → Prop) : Prop := ∀ ρ, G ρ → ∀ (σ τ : Sub) (w : World), G { ρ.put σ τ with B := w.heap.size, w0 := w }
/-- a contract by a run -/
theorem tpl_ok {G : Env → Prop} (hG : Keeps G) {cx : Ctx} {sums : Sums} {mrg : List FuncId} {ρ : Env} (hg : G ρ) (one0 : ∀ i, (ρ.v i).oneCell' = true) (hm : cx.P.follows .mixedOrders = true) (hs : ∀ (ρ : Env) (bd : List (Nat × Int × Int)), G ρ → (∀ i, (ρ.v i).oneCell' = true) → SumsOk (bare cx.P sums mrg bd) ρ) {fuel : Nat} {t : Tpl} (hr : tplRun cx.P sums mrg fuel t = true) :
    ∀ pc args v, tplSum pc t args = some v → PcOk ρ pc → ∀ (L : Lst) (β : Lay) H vals w n, WR cx.P ρ ρ.B ρ.w0 L β H n w → denA ρ β args = some vals → ∃ x, v.den ρ β = some x ∧ Calls cx.P t.f vals.toArray w (Ret x w) := by
  intro pc args v hv ok L β H vals w n hW ha
  unfold tplSum at hv
  split at hv
  · rename_i σ τ hmt
    split at hv
    · rename_i hbd
      cases hv
      simp only [tplRun, Bool.and_eq_true] at hr
      obtain ⟨_, hden⟩ := matchA_den (ρ := ρ) (β := β) (β' := noLay) hmt
      have hden := hden (σ := σ) (τ := τ) (fun _ _ h => h) (fun _ _ h => h)
      rw [ha] at hden
      obtain ⟨x, hx, hx'⟩ := wsV_den (ρ := ρ.put σ τ) hr.1 noLay
      refine ⟨x, by rw [SV.sub_den ok σ τ (β' := noLay) hr.1]; exact hx, ?_⟩
      have one : ∀ i, ((ρ.put σ τ).v i).oneCell' = true := one0
      let ρ' : Env := { ρ.put σ τ with B := w.heap.size, w0 := w }
      have same : ∀ (e : SE), e.den ρ' = e.den (ρ.put σ τ) := by
        intro e
        induction e with
        | un o a ih => simp only [SE.den, ih]
        | bin o a b iha ihb => simp only [SE.den, iha, ihb]
        | ite c a b ihc iha ihb => simp only [SE.den, ihc, iha, ihb]
        | bite c a b ihc iha ihb => simp only [SE.den, ihc, iha, ihb]
        | app f a b c d iha ihb ihc ihd => simp only [SE.den, iha, ihb, ihc, ihd]; rfl
        | papp f a b c d iha ihb ihc ihd => simp only [SE.den, iha, ihb, ihc, ihd]; rfl
        | _ => rfl
      have sameC : ∀ (y : SC) (β : Lay), y.den ρ' β = y.den (ρ.put σ τ) β := by
        intro y β
        cases y with
        | int k e => show some (Value.int k (e.den ρ').1) = some (Value.int k (e.den _).1); rw [same]
        | bool e => show some (Value.bool (e.den ρ').2) = some (Value.bool (e.den _).2); rw [same]
        | _ => rfl
      have sameL : ∀ (l : List SC) (β : Lay), denL ρ' β l = denL (ρ.put σ τ) β l := by
        intro l β
        induction l with
        | nil => rfl
        | cons y r ih => unfold denL; rw [sameC, ih]
      have sameP : ∀ (y : SP) (β : Lay), y.den ρ' β = y.den (ρ.put σ τ) β := by
        intro y β
        cases y with
        | c y => exact sameC y β
        | agg l => show (denL ρ' β l).map _ = _; rw [sameL]; rfl
      have samePs : ∀ (l : List SP) (β : Lay), denP ρ' β l = denP (ρ.put σ τ) β l := by
        intro l β
        induction l with
        | nil => rfl
        | cons y r ih => unfold denP; rw [sameP, ih]
      have sameV : ∀ (y : SV) (β : Lay), y.den ρ' β = y.den (ρ.put σ τ) β := by
        intro y β
        cases y with
        | p y => exact sameP y β
        | tup l => show (denP ρ' β l).map _ = _; rw [samePs]; rfl
        | undef => rfl
        | gd c y => show (if (c.den ρ').2 then y.den ρ' β else _) = _; rw [same, sameP]; rfl
      have sameA : ∀ (l : List SV) (β : Lay), denA ρ' β l = denA (ρ.put σ τ) β l := by
        intro l β
        induction l with
        | nil => rfl
        | cons y r ih => unfold denA; rw [sameV, ih]
      have okB : (bare cx.P sums mrg t.bd).Ok ρ' := bare_ok one hm (fun i l h e => inBd_ok (τ := τ) ok hbd i l h e)
      have hrr := hr.2
      unfold sameO at hrr
      split at hrr
      · rename_i u hu
        have hu' := SV.same_eq hrr
        subst hu'
        refine runF_ret (cx := bare cx.P sums mrg t.bd) (ρ := ρ') (fuel := fuel) (args := t.pat) okB (hs ρ' t.bd (hG ρ hg σ τ w) one) hm rfl rfl (by rw [sameA]; exact hden) ?_
        have := mergeR_ok (ρ := ρ') hu
        have fin : ∀ {q : RTree}, (q.Holds ρ' fun v _ => ∀ β y, v.den ρ' β = some y → t.res.den ρ' β = some y) → q.Holds ρ' fun v _ => ∀ β y, v.den ρ' β = some y → y = x := by
          intro q
          induction q with
          | ret v H =>
            intro h β' y hy
            have h1 := h β' y hy
            have h2 : t.res.den ρ' β' = some x := by rw [sameV]; exact hx' β'
            rw [h2] at h1
            exact (Option.some.inj h1).symm
          | br c a b iha ihb =>
            intro h
            replace h : if c.tru ρ' then _ else _ := h
            show if c.tru ρ' then _ else _
            split at h
            · rename_i hc; rw [if_pos hc]; exact iha h
            · rename_i hc; rw [if_neg hc]; exact ihb h
          | fail _ => exact id
          | all a b iha ihb => exact fun h => ⟨iha h.1, ihb h.2⟩
        exact fin this
      · cases hrr
    · cases hv
  · cases hv
theorem tpls_ok {G : Env → Prop} (hG : Keeps G) {cx : Ctx} {sums : Sums} {mrg : List FuncId} {ρ : Env} (hg : G ρ) (one : ∀ i, (ρ.v i).oneCell' = true) (hm : cx.P.follows .mixedOrders = true) (hs : ∀ (ρ : Env) (bd : List (Nat × Int × Int)), G ρ → (∀ i, (ρ.v i).oneCell' = true) → SumsOk (bare cx.P sums mrg bd) ρ) {fuel : Nat} {f : FuncId} : ∀ {ts : List Tpl}, tplRuns cx.P sums mrg fuel ts = true → (∀ t ∈ ts, t.f = f) → SumOk cx ρ f (tplsSum ts)
  | [], _, _ => by intro pc H args v h; cases h
  | t :: r, hr, hf => by
    intro pc H args v h ok L β vals w n hW ha
    unfold tplRuns at hr
    unfold tplsSum at h
    split at hr
    · rename_i ht
      split at h
      · rename_i u hu
        cases h
        have := tpl_ok hG (cx := cx) (ρ := ρ) hg one hm hs ht pc args _ hu ok L β H vals w n hW ha
        rwa [hf t List.mem_cons_self] at this
      · exact tpls_ok hG hg one hm hs hr (fun t ht => hf t (List.mem_cons_of_mem _ ht)) pc H args v h ok L β vals w n hW ha
    · cases hr
/-- contracts that are so wherever they are used -/
def AllOk (P : Program) (G : Env → Prop) (l : Sums) : Prop := ∀ (cx : Ctx) (ρ : Env), G ρ → (∀ i, (ρ.v i).oneCell' = true) → cx.P = P → ∀ p ∈ l, SumOk cx ρ p.1 p.2
theorem allOk_nil (P : Program) (G : Env → Prop) : AllOk P G [] := fun _ _ _ _ _ p hp => by cases hp
theorem AllOk.sums {P : Program} {G : Env → Prop} {l : Sums} (h : AllOk P G l) {cx : Ctx} {ρ : Env} (hg : G ρ) (one : ∀ i, (ρ.v i).oneCell' = true) (hP : cx.P = P) (hl : cx.sums = l) : SumsOk cx ρ := sums_of (by rw [hl]; exact h cx ρ hg one hP)
theorem stage {P : Program} {G : Env → Prop} (hG : Keeps G) {l : Sums} (h : AllOk P G l) (hm : P.follows .mixedOrders = true) {mrg : List FuncId} {fuel : Nat} {f : FuncId} {ts : List Tpl} (hr : tplRuns P l mrg fuel ts = true) (hf : (ts.all fun t => Nat.beq t.f f) = true) : AllOk P G ((f, tplsSum ts) :: l) := by
  intro cx ρ hg one hP p hp
  rcases List.mem_cons.1 hp with rfl | hp
  · subst hP
    exact tpls_ok hG (cx := cx) hg one hm (fun ρ bd g o => h.sums (cx := bare cx.P l mrg bd) g o rfl rfl) hr (fun t ht => Nat.eq_of_beq_eq_true (List.all_eq_true.1 hf t ht))
  · exact h cx ρ hg one hP p hp
end
end Go.Proofs.Ytopfaapcekiojaa.Sym
