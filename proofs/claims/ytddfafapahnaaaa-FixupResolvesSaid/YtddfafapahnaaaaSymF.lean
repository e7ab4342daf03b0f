/- Operations of two places, structs and slices that are built, lengths; and all of them. -/
import Derived.Test.YtddfafapahnaaaaSymE
namespace Go.Proofs.Ytddfafapahnaaaa.Sym
open Go Go.RowKit Go.Proofs.Ytddfafapahnaaaa

section
variable {cx : Ctx} {ρ : Env} {B : Nat} {w0 w : World} {β : Lay} {s : St} {pc : List (SE × Bool)} {o : Oper} {ev : Operand → Value}
theorem int_den {k : IntKind} {a : SE} {X : Value} (h : (SP.c (.int k a)).den ρ β = some X) : X = .int k (a.int ρ) := (Option.some.inj h).symm
theorem den_int (k : IntKind) (a : SE) : (SC.int k a).den ρ β = some (.int k (a.int ρ)) := rfl
theorem den_bool (a : SE) : (SC.bool a).den ρ β = some (.bool (a.tru ρ)) := rfl
theorem binS_ok (ok : cx.Ok ρ) {op : BinOp} {x y : SP} {v : SC} (h : binS cx op x y = some v) {X Y : Value} (hx : x.den ρ β = some X) (hy : y.den ρ β = some Y) (t : TypeId) (ox oy : Operand) (P : Program) (w : World) :
    ∃ u, v.den ρ β = some u ∧ (do eqGuard op t ox oy X Y; binOp op t X Y : Sem Value).run P w = .ok u w := by
  unfold binS at h
  split at h
  · rename_i k a k' b
    have ex := int_den hx
    have ey := int_den hy
    subst ex; subst ey
    clear hx hy
    have nog : ∀ op : BinOp, (eqGuard op t ox oy (.int k (a.int ρ)) (.int k' (b.int ρ))).run P w = .ok () w := by
      intro op
      unfold eqGuard
      split <;> simp
    simp only [Sem.run_bind, nog, Result.andThen_ok]
    cases op with
    | shl =>
      simp only [] at h
      split at h
      · rename_i m
        split at h
        · rename_i hm
          have hm := intLe_le hm
          cases h
          refine ⟨_, rfl, ?_⟩
          have : ¬ ((SE.lit m).int ρ < 0) := by show ¬ (m < 0); omega
          simp only [binOp, Op.shift, if_neg this, Sem.run_pure]
          rw [mkWrap_ok ok, mkInt_ok]
          rfl
        · cases h
      · cases h
    | shr =>
      simp only [] at h
      split at h
      · rename_i m
        split at h
        · rename_i hm
          have hm := intLe_le hm
          cases h
          refine ⟨_, rfl, ?_⟩
          have : ¬ ((SE.lit m).int ρ < 0) := by show ¬ (m < 0); omega
          simp only [binOp, Op.shift, if_neg this, Sem.run_pure]
          rw [mkUn_int]
          rfl
        · cases h
      · cases h
    | quo =>
      simp only [] at h
      split at h
      · cases h
      · rename_i hk
        have := kSame_eq hk
        subst this
        split at h
        · rename_i m
          split at h
          · cases h
          · rename_i hm
            cases h
            refine ⟨_, rfl, ?_⟩
            have : ¬ ((SE.lit m).int ρ = 0) := intSame_ne hm
            simp only [binOp, ne_eq, not_true_eq_false, if_false, Op.intDiv, if_neg this, Sem.run_pure]
            rw [mkWrap_ok ok, mkInt_ok]
            rfl
        · cases h
    | rem =>
      simp only [] at h
      split at h
      · cases h
      · rename_i hk
        have := kSame_eq hk
        subst this
        split at h
        · rename_i m
          split at h
          · cases h
          · rename_i hm
            cases h
            refine ⟨_, rfl, ?_⟩
            have : ¬ ((SE.lit m).int ρ = 0) := intSame_ne hm
            simp only [binOp, ne_eq, not_true_eq_false, if_false, Op.intDiv, if_neg this, Sem.run_pure]
            rw [mkInt_ok]
            rfl
        · cases h
    | _ =>
      simp only [] at h
      split at h
      · cases h
      · rename_i hk
        have := kSame_eq hk
        subst this
        cases h
        refine ⟨_, rfl, ?_⟩
        simp only [binOp, ne_eq, not_true_eq_false, if_false, Op.intArith, Op.intBits, Op.intCmp, Sem.run_pure, mkWrap_ok ok, mkInt_ok, mkEq_ok ok, mkLt_ok ok, mkLe_ok ok, mkNot_ok]
        try rfl
  · cases h
theorem opBin_ok (ok : cx.Ok ρ) (hW : WR cx.P ρ B w0 β s.H s.n w) {op : BinOp} {t t' : TypeId} {a b : Operand} (ho : o.op = .binOp op t a b t') {x y : SP} (hx : x.den ρ β = some (ev a)) (hy : y.den ρ β = some (ev b)) {v : SC} (h : binS cx op x y = some v) :
    Does cx ρ B w0 β w ev o (.p (.c v)) s.H s.n := by
  obtain ⟨u, hu, hr⟩ := binS_ok ok h hx hy t a b cx.P w
  refine does_value hW (v := .p (.c v)) hu ?_
  simp only [Sem.run_bind] at hr
  simp only [execOp, ho, Sem.run_bind, hr, Result.andThen_ok, Sem.run_pure]
theorem opBinB_ok (hW : WR cx.P ρ B w0 β s.H s.n w) {op : BinOp} {t t' : TypeId} {a b : Operand} (ho : o.op = .binOp op t a b t') {x y : SE} (hx : (SC.bool x).den ρ β = some (ev a)) (hy : (SC.bool y).den ρ β = some (ev b)) (hu : cx.P.underlying t = some .bool) {v : SE}
    (h : (op = .eql ∧ v = mkBeq x y) ∨ (op = .neq ∧ v = mkUn .not (mkBeq x y))) : Does cx ρ B w0 β w ev o (.p (.c (.bool v))) s.H s.n := by
  have ex : ev a = .bool (x.tru ρ) := (Option.some.inj hx).symm
  have ey : ev b = .bool (y.tru ρ) := (Option.some.inj hy).symm
  have nog : (eqGuard op t a b (.bool (x.tru ρ)) (.bool (y.tru ρ))).run cx.P w = .ok () w := by unfold eqGuard; split <;> simp
  refine does_value hW (x := .bool (v.tru ρ)) rfl ?_
  simp only [execOp, ho, Sem.run_bind, ex, ey, nog, Result.andThen_ok]
  rcases h with ⟨rfl, rfl⟩ | ⟨rfl, rfl⟩
  · rw [run_eql_bool w t _ _ hu, mkBeq_ok]; rfl
  · rw [run_neq_bool w t _ _ hu, mkNot_ok, mkBeq_ok]; rfl
theorem fn_ok' {g : FuncId} {x y : List (Nat × Nat)} {u : Value} (h : (SC.fn g x y).den ρ β = some u) : ∃ p q : Array Value, ptrs β x = some p.toList ∧ ptrs β y = some q.toList ∧ u = .func (.func g) p q := by
  simp only [SC.den] at h
  split at h
  · rename_i p q hp hq; exact ⟨p.toArray, q.toArray, by simpa using hp, by simpa using hq, (Option.some.inj h).symm⟩
  · cases h
theorem sgnS_ok {op : BinOp} {e v : SE} (h : sgnS op e = some v) : (op = .eql ∧ v = e) ∨ (op = .neq ∧ v = mkUn .not e) := by
  unfold sgnS at h
  split at h
  · cases h; exact .inl ⟨rfl, rfl⟩
  · cases h; exact .inr ⟨rfl, rfl⟩
  · cases h
theorem bytes_dec (a b : ByteArray) : decide (a.data.toList = b.data.toList) = (a.toList == b.toList) := by
  rw [ByteArray.toList_eq, ByteArray.toList_eq]
  by_cases h : a.data.toList = b.data.toList
  · simp [h]
  · have h' : ¬ a.data = b.data := fun e => h (by rw [e])
    simp [h']
theorem eqFs_ok {eq : TypeId → SP → SP → Option SE} {d : Nat} (heq : ∀ t x y e, eq t x y = some e → ∀ X Y, x.den ρ β = some X → y.den ρ β = some Y → ∀ w, (Op.equalIn d t X Y).run cx.P w = .ok (e.tru ρ) w) {l m : List SC} {ls ms : List Value} (hl : denL ρ β l = some ls) (hm : denL ρ β m = some ms) :
    ∀ (fs : List Field) (e : SE), eqFs cx.P eq l m fs = some e → ∀ w, (Op.eqFields d ls.toArray ms.toArray fs).run cx.P w = .ok (e.tru ρ) w
  | [], e, h, w => by cases h; rfl
  | f :: fs, e, h, w => by
    unfold eqFs at h
    unfold Op.eqFields
    split at h
    · rename_i hn
      have hn := of_decide_eq_true hn
      rw [if_neg (by simp [hn])]
      exact eqFs_ok heq hl hm fs e h w
    · rename_i hn
      have hn := of_decide_eq_false hn
      rw [if_pos hn]
      split at h
      · rename_i a b r ha hb hr
        split at h
        · rename_i e' he
          cases h
          obtain ⟨x, hx, hxd⟩ := run_partS ha hl w
          obtain ⟨y, hy, hyd⟩ := run_partS hb hm w
          simp only [Sem.run_bind, hx, hy, Result.andThen_ok, heq _ _ _ _ he _ _ hxd hyd w, Sem.run_ite, Sem.run_pure, eqFs_ok heq hl hm fs r hr w]
          rw [mkAnd_ok]
          cases e'.tru ρ <;> rfl
        · cases h
      · cases h
theorem eqT_ok (ok : cx.Ok ρ) : ∀ (n : Nat) {t : TypeId} {x y : SP} {e : SE}, eqT cx n t x y = some e → ∀ (d : Nat), n ≤ d → ∀ (X Y : Value), x.den ρ β = some X → y.den ρ β = some Y → ∀ w, (Op.equalIn d t X Y).run cx.P w = .ok (e.tru ρ) w
  | 0, _, _, _, _, h => by cases h
  | n + 1, t, x, y, e, h => by
    intro d hd X Y hx hy w
    obtain ⟨d, rfl⟩ : ∃ d', d = d' + 1 := ⟨d - 1, by omega⟩
    unfold eqT at h
    split at h
    · rename_i a b hu
      cases h
      cases hx; cases hy
      rw [run_equalIn_bool' w d t _ _ hu, mkBeq_ok]
    · rename_i k0 k a k' b hu
      split at h
      · rename_i hk
        cases h
        cases hx; cases hy
        rw [← kSame_eq hk, run_equalIn_int w d t k k0 _ _ hu, mkEq_ok ok]
      · cases h
    · rename_i a b hu
      cases h
      cases hx; cases hy
      rw [run_equalIn_string w d t _ _ hu, ← bytes_dec]
      split
      · rename_i hd; rw [hd]; rfl
      · rename_i hd; rw [hd]; rfl
    · rename_i fs l m hu
      split at h
      · rename_i hs
        obtain ⟨ls, hls, rfl⟩ := agg_ok hx
        obtain ⟨ms, hms, rfl⟩ := agg_ok hy
        have hf : cx.P.fieldsOf t = fs := by unfold Program.fieldsOf; rw [hu]
        rw [run_equalIn_struct w d t _ _ (by rw [hf]; exact hu) hs, hf]
        exact eqFs_ok (fun t x y e he X Y hX hY w => eqT_ok ok n he d (by omega) X Y hX hY w) hls hms fs.toList e h w
      · cases h
    · cases h
theorem opEq_ok (ok : cx.Ok ρ) (hW : WR cx.P ρ B w0 β s.H s.n w) {op : BinOp} {t t' : TypeId} {a b : Operand} (ho : o.op = .binOp op t a b t') {x y : SP} (hx : x.den ρ β = some (ev a)) (hy : y.den ρ β = some (ev b)) {v : SE} (h : eqS cx t op x y = some v) :
    Does cx ρ B w0 β w ev o (.p (.c (.bool v))) s.H s.n := by
  unfold eqS at h
  split at h
  · rename_i p q
    split at h
    · rename_i hu; exact opBinB_ok hW ho hx hy hu (sgnS_ok h)
    · cases h
  · rename_i p q
    have ex : ev a = .string p := (Option.some.inj hx).symm
    have ey : ev b = .string q := (Option.some.inj hy).symm
    have nog : (eqGuard op t a b (.string p) (.string q)).run cx.P w = .ok () w := by unfold eqGuard; split <;> simp
    refine does_value hW (x := .bool (v.tru ρ)) rfl ?_
    simp only [execOp, ho, Sem.run_bind, ex, ey, nog, Result.andThen_ok]
    have hb := bytes_dec p q
    rcases sgnS_ok h with ⟨rfl, rfl⟩ | ⟨rfl, rfl⟩
    · simp only [binOp, Op.stringOp, Sem.run_pure, ← hb]
      split <;> rename_i hd <;> simp only [hd] <;> rfl
    · simp only [binOp, Op.stringOp, Sem.run_pure, ← hb]
      split <;> rename_i hd <;> simp only [hd] <;> rfl
  · rename_i f p q
    split at h
    · rename_i hu
      obtain ⟨A1, A2, _, _, ex⟩ := fn_ok' (ρ := ρ) hx
      have ey : ev b = .nilFunc := (Option.some.inj hy).symm
      have nog : (eqGuard op t a b (.func (.func f) A1 A2) .nilFunc).run cx.P w = .ok () w := by unfold eqGuard; split <;> simp
      have he : ∀ d, (Op.equalIn (d + 1) t (.func (.func f) A1 A2) .nilFunc).run cx.P w = .ok false w := fun d => by simp [Op.equalIn, run_underlying hu]
      refine does_value hW (x := .bool (v.tru ρ)) rfl ?_
      simp only [execOp, ho, Sem.run_bind, ex, ey, nog, Result.andThen_ok]
      rcases sgnS_ok h with ⟨rfl, rfl⟩ | ⟨rfl, rfl⟩
      · simp only [binOp]; simp [Op.equal, Op.maxDepth, he 9999]; rfl
      · simp only [binOp]; simp [Op.equal, Op.maxDepth, he 9999]; rfl
    · cases h
  · rename_i l m
    split at h
    · rename_i hg
      split at h
      · rename_i e he
        obtain ⟨ls, hls, ex⟩ := agg_ok hx
        obtain ⟨ms, hms, ey⟩ := agg_ok hy
        have nog := run_eqGuard_agg w op t a b ls.toArray ms.toArray hg
        have heq := eqT_ok ok 6 he 10000 (by omega) _ _ hx hy w
        rw [ex, ey] at heq
        refine does_value hW (x := .bool (v.tru ρ)) rfl ?_
        simp only [execOp, ho, Sem.run_bind, ex, ey, nog, Result.andThen_ok]
        rcases sgnS_ok h with ⟨rfl, rfl⟩ | ⟨rfl, rfl⟩
        · rw [run_eql_struct, heq]; rfl
        · rw [run_neq_struct, heq, mkNot_ok]; rfl
      · cases h
    · cases h
  · cases h
theorem take_set_succ {α : Type} (L : List α) (m : Nat) (v : α) (hm : m < L.length) : (L.set m v).take (m + 1) = L.take m ++ [v] := by
  apply List.ext_getElem?
  intro j
  have hl : (L.take m).length = m := by simp; omega
  rcases Nat.lt_trichotomy j m with h | rfl | h
  · rw [List.getElem?_take, if_pos (by omega), List.getElem?_set_ne (by omega), List.getElem?_append_left (by omega), List.getElem?_take, if_pos h]
  · rw [List.getElem?_take, if_pos (by omega), List.getElem?_set_self hm, List.getElem?_append_right (by omega), hl]
    simp
  · rw [List.getElem?_take, if_neg (by omega), List.getElem?_append_right (by omega), hl, List.getElem?_eq_none (by simp; omega)]
/-- parts are filled in -/
theorem foldl_set {α : Type} (vs : List α) : ∀ (k off : Nat) (cells : Array α), off + k + vs.length ≤ cells.size →
    ((vs.zipIdx k).foldl (fun cs (p : α × Nat) => cs.setIfInBounds (off + p.2) p.1) cells).toList = cells.toList.take (off + k) ++ vs ++ cells.toList.drop (off + k + vs.length) := by
  induction vs with
  | nil => intro k off cells _; simp
  | cons v r ih =>
    intro k off cells h
    simp only [List.length_cons] at h
    simp only [List.zipIdx_cons, List.foldl_cons]
    rw [ih (k + 1) off _ (by simp; omega)]
    have hk : off + k < cells.toList.length := by simp; omega
    simp only [Array.toList_setIfInBounds, List.length_cons]
    rw [show off + (k + 1) = off + k + 1 by omega, take_set_succ _ _ _ hk, List.drop_set_of_lt (by omega)]
    simp only [List.append_assoc, List.cons_append, List.nil_append]
    congr 4
    omega
def denQ (ρ : Env) (β : Lay) : List (Nat × SP) → Option (List (Nat × Value))
  | [] => some []
  | (i, x) :: r => match x.den ρ β, denQ ρ β r with
    | some v, some l => some ((i, v) :: l)
    | _, _ => none
theorem fillS_ok (ok : cx.Ok ρ) {place : Nat → Option (Nat × Nat)} : ∀ {ps : List (Nat × SP)} {cells l : List SC} {cs : List Value} {qs : List (Nat × Value)}, fillS place cells ps = some l → denL ρ β cells = some cs → denQ ρ β ps = some qs →
    ∃ ls, denL ρ β l = some ls ∧ Instr.fill place cs.toArray qs = some ls.toArray ∧ ls.length = cs.length
  | [], cells, l, cs, qs, h, hc, hq => by cases h; cases hq; exact ⟨cs, hc, rfl, rfl⟩
  | (i, v) :: r, cells, l, cs, qs, h, hc, hq => by
    unfold fillS at h
    unfold denQ at hq
    cases hv : v.den ρ β with
    | none => simp [hv] at hq
    | some x =>
      cases hr : denQ ρ β r with
      | none => simp [hv, hr] at hq
      | some q' =>
        simp only [hv, hr] at hq
        cases hq
        split at h
        · cases h
        · rename_i off size hp
          split at h
          · rename_i hb
            simp only [Bool.and_eq_true] at hb
            have h1 := Nat.eq_of_beq_eq_true hb.1
            have h2 := Nat.le_of_ble_eq_true hb.2
            obtain ⟨us, hus, hx⟩ := SP.cells_ok ok hv
            have hul := denL_length hus
            have hcl := denL_length hc
            have hd : denL ρ β (splice cells off v.cells) = some (cs.take off ++ us ++ cs.drop (off + us.length)) := by
              unfold splice
              rw [← hul]
              exact denL_append (denL_append (denL_take hc off) hus) (denL_drop hc _)
            obtain ⟨ls, hls, hf, hlen⟩ := fillS_ok ok h hd hr
            refine ⟨ls, hls, ?_, by rw [hlen]; simp; omega⟩
            unfold Instr.fill
            simp only [hp, hx, List.size_toArray]
            have hcond : (decide (us.length ≠ size) || decide (off + us.length > cs.length)) = false := by simp; omega
            have hz := foldl_set us 0 off cs.toArray (by simp; omega)
            have hz' : us.toArray.zipIdx.foldl (fun cs (p : Value × Nat) => cs.setIfInBounds (off + p.2) p.1) cs.toArray = (cs.take off ++ us ++ cs.drop (off + us.length)).toArray := by
              apply Array.ext'
              rw [← Array.foldl_toList]
              simpa using hz
            rw [if_neg (by simpa using hcond)]
            exact (congrArg (fun a => Instr.fill place a q') hz').trans hf
          · cases h
theorem placesOf_ok {P : Program} : ∀ {fs : List Field} {pl : List (Nat × Nat)}, placesOf P fs = some pl → fs.mapM (fun f => (P.info? f.type).map fun i => (f.offset, i.size)) = some pl
  | [], _, h => by cases h; rfl
  | f :: r, pl, h => by
    unfold placesOf at h
    split at h
    · rename_i i l hi hl
      cases h
      simp [List.mapM_cons, hi, placesOf_ok hl]
    · cases h
theorem zero_cells (ok : cx.Ok ρ) {t : TypeId} {z : SP} (h : zeroS cx.P t = some z) : ∃ i x cs, cx.P.info? t = some i ∧ i.zero = some x ∧ denL ρ β z.cells = some cs ∧ x.cells = cs.toArray := by
  obtain ⟨x, _, hd, i, hi, hz⟩ := zeroS_ok (ρ := ρ) (β := β) h default
  obtain ⟨cs, hcs, hx⟩ := SP.cells_ok ok hd
  exact ⟨i, x, cs, hi, hz, hcs, hx⟩
theorem opBuildS_ok (ok : cx.Ok ρ) (hW : WR cx.P ρ B w0 β s.H s.n w) {t : TypeId} {parts : Array (Nat × Operand)} (ho : o.op = .build t parts) {z : SP} (hz : zeroS cx.P t = some z) {ps : List (Nat × SP)} (hps : denQ ρ β ps = some (parts.toList.map fun p => (p.1, ev p.2)))
    {place : Nat → Option (Nat × Nat)} {l : List SC} (hf : fillS place z.cells ps = some l) (hb : ∀ i x, cx.P.info? t = some i → i.zero = some x → ∀ qs, cx.P.built t qs = Instr.fill place x.cells qs) :
    Does cx ρ B w0 β w ev o (.p (.agg l)) s.H s.n := by
  obtain ⟨i, x, cs, hi, hzz, hcs, hx⟩ := zero_cells (β := β) ok hz
  obtain ⟨ls, hls, hfill, _⟩ := fillS_ok ok hf hcs hps
  refine does_value hW (x := .agg ls.toArray) (by simp [SV.den, SP.den, hls]) ?_
  have hbt : cx.P.built t (parts.map fun (p : Nat × Operand) => (p.1, ev p.2)).toList = some ls.toArray := by
    rw [hb i x hi hzz, hx]
    simpa using hfill
  simp only [execOp, ho, Sem.run_bind, run_build w t _ _ hbt, Result.andThen_ok, Sem.run_pure]
theorem repl_length (l : List SC) : ∀ n, (repl n l).length = n * l.length
  | 0 => by simp [repl]
  | n + 1 => by simp only [repl, List.length_append, repl_length l n, Nat.add_mul]; omega
theorem denL_repl {l : List SC} {cs : List Value} (h : denL ρ β l = some cs) : ∀ n, denL ρ β (repl n l) = some (List.replicate n cs).flatten
  | 0 => by simp [repl, denL]
  | n + 1 => by simp only [repl, List.replicate_succ, List.flatten_cons]; exact denL_append h (denL_repl h n)
theorem flat_get {α : Type} (cs : List α) : ∀ (n i : Nat), i < n * cs.length → ((List.replicate n cs).flatten)[i]? = cs[i % cs.length]?
  | 0, i, h => by omega
  | n + 1, i, h => by
    simp only [List.replicate_succ, List.flatten_cons]
    by_cases hi : i < cs.length
    · rw [List.getElem?_append_left hi, Nat.mod_eq_of_lt hi]
    · rw [List.getElem?_append_right (by omega), flat_get cs n (i - cs.length) (by rw [Nat.add_mul] at h; omega)]
      congr 1
      exact (Nat.mod_eq_sub_mod (by omega)).symm
theorem zeros_flat (cs : List Value) (n : Nat) (hc : 0 < cs.length) : (Array.range (n * cs.length)).map (fun i => cs.toArray[i % cs.toArray.size]!) = (List.replicate n cs).flatten.toArray := by
  apply Array.ext'
  apply List.ext_getElem?
  intro j
  simp only [Array.toList_map, Array.toList_range, List.getElem?_map]
  by_cases hj : j < n * cs.length
  · rw [List.getElem?_range hj, flat_get cs n j hj]
    simp
    have hm : j % cs.length < cs.length := Nat.mod_lt _ hc
    simp [hm]
  · rw [List.getElem?_eq_none (by simp; omega), List.getElem?_eq_none (by simp; omega)]
    rfl
theorem opBuildSlice_ok (ok : cx.Ok ρ) (hW : WR cx.P ρ B w0 β s.H s.n w) {t e : TypeId} {len : Nat} {parts : Array (Nat × Operand)} (ho : o.op = .buildSlice t len parts) (hu : cx.P.underlying t = some (.slice e)) {z : SP} (hz : zeroS cx.P e = some z)
    {ps : List (Nat × SP)} (hps : denQ ρ β ps = some (parts.toList.map fun p => (p.1, ev p.2))) (h1 : z.cells.length = cx.P.cellsOf e) (h2 : 0 < cx.P.cellsOf e) (h0 : 0 < len) (h3 : len * cx.P.cellsOf e ≤ small) {l : List SC}
    (hf : fillS (fun i => some (i * cx.P.cellsOf e, cx.P.cellsOf e)) (repl len z.cells) ps = some l) : Does cx ρ B w0 β w ev o (.p (.c (.slice s.n 0 len len))) ((s.n, { cells := l, ty := e }) :: s.H) (s.n + 1) := by
  obtain ⟨i, x, cs, hi, hzz, hcs, hx⟩ := zero_cells (β := β) ok hz
  have hcl := denL_length hcs
  obtain ⟨ls, hls, hfill, _⟩ := fillS_ok ok hf (denL_repl hcs len) hps
  have hW' := hW.alloc hls e
  refine ⟨_, _, .slice (some ⟨w.heap.size, 0, none⟩) len len, Lay.le_put hW.fresh _, by simp [SV.den, SP.den, SC.den, Lay.put], hW', .inl ?_, .inr (by unfold Lays; rw [ho]; trivial)⟩
  have hsz : cx.P.cellsOf e = cs.length := by omega
  have hz0 := zeros_flat cs len (by omega)
  have hzv : (zeroValue e).run cx.P w = .ok x w := by simp [zeroValue, typeInfo, hi, hzz]
  have n1 : ¬ (len * cx.P.cellsOf e > 2 ^ 24) := by unfold small at h3; omega
  have n2 : ¬ (len * cx.P.cellsOf e = 0) := by
    have := Nat.mul_pos h0 h2
    omega
  have hfill' : Instr.fill (fun i => some (i * cx.P.cellsOf e, cx.P.cellsOf e)) ((Array.range (len * cx.P.cellsOf e)).map (fun i => x.cells[i % x.cells.size]!)) (parts.map fun (p : Nat × Operand) => (p.1, ev p.2)).toList = some ls.toArray := by
    rw [hx, hsz, hz0, ← hsz]
    simpa using hfill
  simp only [execOp, ho, Instr.buildSlice, Sem.run_bind, run_underlying hu w, Result.andThen_ok, run_sizeOf w hi, if_neg n1, Sem.run_ite, if_neg n2, Sem.run_pure, hzv]
  simp only [hfill']
  simp [newRow]
end
end Go.Proofs.Ytddfafapahnaaaa.Sym
