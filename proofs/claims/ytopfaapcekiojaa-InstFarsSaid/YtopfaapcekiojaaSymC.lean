/- What the executor's values say is so. -/
import Derived.Test.YtopfaapcekiojaaSymB
import Derived.Test.YtopfaapcekiojaaSymQ
namespace Go.Proofs.Ytopfaapcekiojaa.Sym
open Go Go.RowKit Go.Proofs.Ytopfaapcekiojaa

/-- arguments' values -/
def denA (ρ : Env) (β : Lay) : List SV → Option (List Value)
  | [] => some []
  | x :: r => match x.den ρ β, denA ρ β r with
    | some v, some l => some (v :: l)
    | _, _ => none
/-- what is assumed of the letters and of the functions that are taken by their contracts -/
structure Ctx.Ok (cx : Ctx) (ρ : Env) : Prop where
  bd : ∀ i l h, lk cx.bd i = some (l, h) → l ≤ ρ.i i ∧ ρ.i i ≤ h
  fb : ∀ f l h, lk cx.fb f = some (l, h) → ∀ a b c d, l ≤ ρ.f f a b c d ∧ ρ.f f a b c d ≤ h
  one : ∀ i, (ρ.v i).oneCell' = true
  mixed : cx.P.follows .mixedOrders = true
  ax : ∀ p ∈ cx.ax, p.1.tru ρ = p.2
theorem assumes_ok {ρ : Env} : ∀ {l : List (SE × Bool)} {pc : PC}, (∀ p ∈ l, p.1.tru ρ = p.2) → PcOk ρ pc → PcOk ρ (assumes l pc)
  | [], _, _, h => h
  | (e, t) :: r, _, hl, h => by
    unfold assumes
    exact assumes_ok (fun p hp => hl p (List.mem_cons_of_mem _ hp)) (assume_ok h (hl (e, t) List.mem_cons_self))
theorem Ctx.Ok.start {cx : Ctx} {ρ : Env} (ok : cx.Ok ρ) : PcOk ρ (assumes cx.ax (PC.start cx)) :=
  assumes_ok ok.ax ⟨ok.bd, ok.fb, (by intro e he; cases he), (by intro f hf; cases hf), (by intro f hf; cases hf), rfl⟩
theorem decT_ok {ρ : Env} {pc : PC} (h : PcOk ρ pc) {e : SE} {b : Bool} (hd : decT pc e = some b) : e.tru ρ = b := by
  unfold decT at hd
  split at hd
  · cases hd; rfl
  · cases hd; rfl
  · exact dec_ok h hd
theorem chooseS_ok {ρ : Env} {pc : PC} (h : PcOk ρ pc) (c a b : SE) : (chooseS pc c a b).int ρ = if c.tru ρ then a.int ρ else b.int ρ := by
  unfold chooseS
  split
  · rename_i hd; rw [decT_ok h hd]; rfl
  · rename_i hd; rw [decT_ok h hd]; rfl
  · exact mkIte_ok c a b
theorem knownC_ok {ρ : Env} {pc : PC} (h : PcOk ρ pc) {β : Lay} (x : SC) : (knownC pc x).den ρ β = x.den ρ β := by
  unfold knownC
  split
  · rename_i k e
    split
    · rfl
    · split
      · rename_i n hn; show some (Value.int k n) = some (Value.int k (e.int ρ)); rw [evalE_ok h hn]
      · rfl
  · rename_i e
    split
    · rename_i t ht; show some (Value.bool ((litB t).tru ρ)) = some (Value.bool (e.tru ρ)); rw [decT_ok h ht, litB_ok]
    · rfl
  · rfl
theorem knownL_ok {ρ : Env} {pc : PC} (h : PcOk ρ pc) {β : Lay} : ∀ l : List SC, denL ρ β (knownL pc l) = denL ρ β l
  | [] => rfl
  | x :: r => by
    show denL ρ β (knownC pc x :: knownL pc r) = denL ρ β (x :: r)
    unfold denL
    rw [knownC_ok h, knownL_ok h r]
theorem knownA_ok {ρ : Env} {pc : PC} (h : PcOk ρ pc) {β : Lay} : ∀ l : List SV, denA ρ β (knownA pc l) = denA ρ β l
  | [] => rfl
  | .p (.c x) :: r => by
    show denA ρ β (.p (.c (knownC pc x)) :: knownA pc r) = _
    unfold denA
    have e1 : (SV.p (.c (knownC pc x))).den ρ β = (SV.p (.c x)).den ρ β := knownC_ok h x
    rw [e1, knownA_ok h r]
  | .p (.agg l) :: r => by
    show denA ρ β (.p (.agg (knownL pc l)) :: knownA pc r) = _
    unfold denA
    have e1 : (SV.p (.agg (knownL pc l))).den ρ β = (SV.p (.agg l)).den ρ β := by show (denL ρ β _).map _ = (denL ρ β _).map _; rw [knownL_ok h]
    rw [e1, knownA_ok h r]
  | .tup l :: r => by
    show denA ρ β (.tup l :: knownA pc r) = _
    unfold denA
    rw [knownA_ok h r]
  | .undef :: r => by
    show denA ρ β (.undef :: knownA pc r) = _
    unfold denA
    rw [knownA_ok h r]
  | .gd c x :: r => by
    show denA ρ β (.gd c x :: knownA pc r) = _
    unfold denA
    rw [knownA_ok h r]
theorem setPc_eq (s : St) (p : PC) : s.setPc p = { s with pc := p } := by cases s; rfl
theorem putS_def (s : St) (dst : Option Tmp) (v : SV) (H : List (Nat × Blk)) (n : Nat) : putS s dst v H n = match dst with
    | some d => match Nat.blt d s.nt with
      | true => some { s with F := (d, v) :: s.F, H := H, n := n }
      | false => none
    | none => some { s with H := H, n := n } := by cases s; rfl
theorem branch2_ok {ρ : Env} {e : SE} {p q : PC} (hp : e.tru ρ = true → PcOk ρ p) (hq : e.tru ρ = false → PcOk ρ q) {a b : PC → Tree} {Q : SX → St → Prop} (hh : (branch2 e p q a b).Holds ρ Q) :
    (e.tru ρ = true → (a p).Holds ρ Q) ∧ (e.tru ρ = false → (b q).Holds ρ Q) := by
  unfold branch2 at hh
  split at hh
  · rename_i hb
    exact ⟨fun ht => (by have := (hp ht).good; rw [hb] at this; cases this), fun _ => hh⟩
  · split at hh
    · rename_i hb
      exact ⟨fun _ => hh, fun ht => (by have := (hq ht).good; rw [hb] at this; cases this)⟩
    · replace hh : if e.tru ρ then _ else _ := hh
      exact ⟨fun ht => by rw [if_pos ht] at hh; exact hh, fun ht => by rw [ht, if_neg (by simp)] at hh; exact hh⟩
theorem branch_ok {ρ : Env} {pc : PC} (h : PcOk ρ pc) {e : SE} {a b : PC → Tree} {Q : SX → St → Prop} (hh : (branch pc e a b).Holds ρ Q) :
    (e.tru ρ = true → (a (assume pc e true)).Holds ρ Q) ∧ (e.tru ρ = false → (b (assume pc e false)).Holds ρ Q) :=
  branch2_ok (fun ht => assume_ok h ht) (fun ht => assume_ok h ht) hh
theorem isN_ok {ρ : Env} {pc : PC} (h : PcOk ρ pc) {e : SE} {j : Int} {t : Bool} (ht : (SE.bin .eq e (.lit j)).tru ρ = t) : PcOk ρ (isN pc e j t) :=
  assume_ok (assume_ok h ht) (by rw [mkEq_ok h]; exact ht)
theorem absC_ok {ρ : Env} {β : Lay} {v : Value} {x : SC} (h : absC v = some x) : x.den ρ β = some v := by
  unfold absC at h
  split at h <;> cases h <;> first | rfl | skip
  rename_i b
  cases b <;> rfl
theorem absL_ok {ρ : Env} {β : Lay} : ∀ {vs : List Value} {l : List SC}, absL vs = some l → denL ρ β l = some vs
  | [], _, h => by cases h; rfl
  | v :: r, l, h => by
    unfold absL at h
    split at h
    · rename_i x l' hx hl
      cases h
      unfold denL
      simp only [absC_ok hx, absL_ok hl]
    · cases h
theorem absP_ok {ρ : Env} {β : Lay} {v : Value} {x : SP} (h : absP v = some x) : x.den ρ β = some v := by
  unfold absP at h
  split at h
  · rename_i cs
    cases hl : absL cs.toList with
    | none => simp [hl] at h
    | some l =>
      rw [hl] at h; cases h
      simp [SP.den, absL_ok hl]
  · cases hl : absC v with
    | none => simp [hl] at h
    | some l => rw [hl] at h; cases h; exact absC_ok hl
theorem SC.den_one {ρ : Env} {cx : Ctx} (ok : cx.Ok ρ) {β : Lay} {x : SC} {v : Value} (h : x.den ρ β = some v) : v.oneCell' = true := by
  cases x with
  | int k e => cases h; rfl
  | bool e => cases h; rfl
  | str s => cases h; rfl
  | nilp => cases h; rfl
  | nils => cases h; rfl
  | nilf => cases h; rfl
  | strv i => cases h; rfl
  | osl i n => cases h; rfl
  | var i => cases h; exact ok.one i
  | ptr b off | slice b off l c | row b l | yld b =>
    simp only [SC.den] at h
    cases hb : β b with
    | none => simp [hb] at h
    | some y => rw [hb] at h; cases h; rfl
  | fn f a b =>
    simp only [SC.den] at h
    split at h
    · cases h; rfl
    · cases h
theorem denL_one {ρ : Env} {cx : Ctx} (ok : cx.Ok ρ) {β : Lay} : ∀ {l : List SC} {vs : List Value}, denL ρ β l = some vs → ∀ v ∈ vs, v.oneCell' = true
  | [], _, e => by cases e; simp
  | x :: r, vs, e => by
    unfold denL at e
    cases hx : x.den ρ β with
    | none => simp [hx] at e
    | some v =>
      cases hr : denL ρ β r with
      | none => simp [hx, hr] at e
      | some l =>
        simp only [hx, hr] at e; cases e
        intro u hu
        rcases List.mem_cons.1 hu with rfl | hu
        · exact SC.den_one ok hx
        · exact denL_one ok hr u hu
/-- a value's cells -/
theorem SP.cells_ok {ρ : Env} {cx : Ctx} (ok : cx.Ok ρ) {β : Lay} {x : SP} {v : Value} (h : x.den ρ β = some v) : ∃ cs, denL ρ β x.cells = some cs ∧ v.cells = cs.toArray := by
  cases x with
  | c y =>
    refine ⟨[v], ?_, ?_⟩
    · show denL ρ β [y] = _; unfold denL; have : y.den ρ β = some v := h; simp [this, denL]
    · have := SC.den_one ok h; cases v <;> first | rfl | cases this
  | agg l =>
    simp only [SP.den] at h
    cases hl : denL ρ β l with
    | none => simp [hl] at h
    | some cs => rw [hl] at h; cases h; exact ⟨cs, hl, rfl⟩
end Go.Proofs.Ytopfaapcekiojaa.Sym
