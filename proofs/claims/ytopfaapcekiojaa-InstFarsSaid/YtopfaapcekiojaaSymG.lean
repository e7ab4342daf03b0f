/- Every operation of the executor that calls no function of the program does what the model's does. -/
import Derived.Test.YtopfaapcekiojaaSymF
namespace Go.Proofs.Ytopfaapcekiojaa.Sym
open Go Go.RowKit Go.Proofs.Ytopfaapcekiojaa

section
variable {cx : Ctx} {ρ : Env} {B : Nat} {w0 w : World} {L : Lst} {β : Lay} {s : St} {pc : PC} {o : Oper} {ev : Operand → Value}
theorem ptrsOf_ok (hpc : PcOk ρ pc) : ∀ {l : List Operand} {a : List (Nat × Nat)}, ptrsOf s pc l = some a → (∀ x ∈ l, EvOk ρ β s ev x) → ptrs β a = some (l.map ev)
  | [], _, h, _ => by cases h; rfl
  | x :: r, a, h, he => by
    unfold ptrsOf at h
    split at h
    · rename_i b off l hx hl
      cases h
      obtain ⟨ad, cap, hb, hev⟩ := ptr_ok (opc_ok hpc (he x (by simp)) hx)
      unfold ptrs
      simp only [hb, ptrsOf_ok hpc hl (fun y hy => he y (by simp [hy])), List.map_cons, hev]
    · cases h
theorem partsOf_ok (hpc : PcOk ρ pc) : ∀ {l : List (Nat × Operand)} {a : List (Nat × SP)}, partsOf s pc l = some a → (∀ p ∈ l, EvOk ρ β s ev p.2) → denQ ρ β a = some (l.map fun p => (p.1, ev p.2))
  | [], _, h, _ => by cases h; rfl
  | (i, x) :: r, a, h, he => by
    unfold partsOf at h
    split at h
    · rename_i v l hx hl
      cases h
      have h1 := opp_ok hpc (he (i, x) (by simp)) hx
      unfold denQ
      simp only [h1, partsOf_ok hpc hl (fun y hy => he y (by simp [hy])), List.map_cons]
    · cases h
theorem bool_ok {e : SE} {u : Value} (h : (SC.bool e).den ρ β = some u) : u = .bool (e.tru ρ) := (Option.some.inj h).symm
theorem opLen_ok (hW : WR cx.P ρ B w0 L β s.H s.n w) {x : Operand} {t : TypeId} {args : Array Operand} {argTypes : Array TypeId} (ho : o.op = .call { callee := .builtin .len, args := args, argTypes := argTypes }) (ha : args.toList = [x]) (ht : argTypes.toList = [t]) {d : TypeDesc}
    (hu : cx.P.underlying t = some d) {n : Nat} (hx : ((∃ e, d = .slice e) ∧ ∃ a c, ev x = .slice a n c) ∨ (d = .string ∧ ∃ z : ByteArray, ev x = .string z ∧ z.size = n)) : Does cx ρ B w0 L β w ev o (.p (.c (.int .i64 (.lit n)))) s.H s.n := by
  refine does_value hW (x := .int .i64 n) rfl ?_
  have ha' : args = #[x] := Array.ext' (by simpa using ha)
  have ht' : argTypes = #[t] := Array.ext' (by simpa using ht)
  subst ha'; subst ht'
  have hr := run_underlying hu w
  rcases hx with ⟨⟨e, rfl⟩, a, c, hx⟩ | ⟨rfl, z, hx, hz⟩
  · simp [execOp, ho, resolve, invoke, builtin, Builtin.len_, hx, hr, goInt]
  · simp [execOp, ho, resolve, invoke, builtin, Builtin.len_, hx, hr, goInt, hz]
theorem opMax_ok (hpc : PcOk ρ pc) (hW : WR cx.P ρ B w0 L β s.H s.n w) {x y : Operand} {args : Array Operand} {argTypes : Array TypeId} (ho : o.op = .call { callee := .builtin .max, args := args, argTypes := argTypes }) (ha : args.toList = [x, y]) {k k' : IntKind} {a b : SE}
    (hx : ev x = .int k (a.int ρ)) (hy : ev y = .int k' (b.int ρ)) : Does cx ρ B w0 L β w ev o (.p (.c (.int k (chooseS pc (mkLt pc a b) b a)))) s.H s.n := by
  refine does_value hW (x := .int k (if b.int ρ > a.int ρ then b.int ρ else a.int ρ)) ?_ ?_
  · show some (Value.int k _) = _
    rw [chooseS_ok hpc, mkLt_ok hpc]
    simp only [decide_eq_true_eq]
  have ha' : args = #[x, y] := Array.ext' (by simpa using ha)
  subst ha'
  simp [execOp, ho, resolve, invoke, builtin, Builtin.max_, Builtin.max2, hx, hy]
theorem opMin_ok (hpc : PcOk ρ pc) (hW : WR cx.P ρ B w0 L β s.H s.n w) {x y : Operand} {args : Array Operand} {argTypes : Array TypeId} (ho : o.op = .call { callee := .builtin .min, args := args, argTypes := argTypes }) (ha : args.toList = [x, y]) {k k' : IntKind} {a b : SE}
    (hx : ev x = .int k (a.int ρ)) (hy : ev y = .int k' (b.int ρ)) : Does cx ρ B w0 L β w ev o (.p (.c (.int k (chooseS pc (mkLt pc b a) b a)))) s.H s.n := by
  refine does_value hW (x := .int k (if b.int ρ < a.int ρ then b.int ρ else a.int ρ)) ?_ ?_
  · show some (Value.int k _) = _
    rw [chooseS_ok hpc, mkLt_ok hpc]
    simp only [decide_eq_true_eq]
  have ha' : args = #[x, y] := Array.ext' (by simpa using ha)
  subst ha'
  simp [execOp, ho, resolve, invoke, builtin, Builtin.min_, Builtin.min2, hx, hy]
theorem map_some {α β : Type} {o : Option α} {f : α → β} {y : β} (h : o.map f = some y) : ∃ x, o = some x ∧ f x = y := by
  cases o with
  | none => cases h
  | some x => exact ⟨x, rfl, Option.some.inj h⟩
theorem isSome_ex {α : Type} {x : Option α} (h : x.isSome = true) : ∃ y, x = some y := Option.isSome_iff_exists.1 h
theorem opS_ok (ok : cx.Ok ρ) (hpc : PcOk ρ pc) (hW : WR cx.P ρ B w0 L β s.H s.n w) (hev : ∀ x ∈ o.op.operands.toList, EvOk ρ β s ev x) {v : SV} {H : List (Nat × Blk)} {n : Nat} (h : opS cx s pc o = some (v, H, n)) :
    Does cx ρ B w0 L β w ev o v H n := by
  unfold opS at h
  cases ho : o.op with
  | move x | assign x =>
    simp only [ho, opMoveS] at h hev
    have hx := hev x (by simp [Op.operands])
    split at h
    · rename_i c u hu
      have hd := hx _ hu
      split at h
      · rename_i hc
        cases h
        refine opMove_ok hW (by first | exact .inl ho | exact .inr ho) ?_
        have := dec_ok hpc hc
        simpa [SV.den, this] using hd
      · cases h
        exact opMove_ok hW (by first | exact .inl ho | exact .inr ho) hd
    · rename_i u _ hu
      cases h
      exact opMove_ok hW (by first | exact .inl ho | exact .inr ho) (hx _ hu)
    · cases h
  | pick c a b =>
    simp only [ho, opPickS] at h hev
    have hc := hev c (by simp [Op.operands])
    have ha := hev a (by simp [Op.operands])
    have hb := hev b (by simp [Op.operands])
    split at h
    · rename_i e he
      have ce := bool_ok (opc_ok hpc hc he)
      split at h
      · rename_i hd
        obtain ⟨x, hx, e'⟩ := map_some h
        cases e'
        refine opPick_ok hW ho ce ?_
        rw [dec_ok hpc hd]
        exact opp_ok hpc ha hx
      · rename_i hd
        obtain ⟨x, hx, e'⟩ := map_some h
        cases e'
        refine opPick_ok hW ho ce ?_
        rw [dec_ok hpc hd]
        exact opp_ok hpc hb hx
      · split at h
        · rename_i x y hx hy
          cases h
          refine opPick_ok hW ho ce ?_
          show some (Value.bool ((mkBite e x y).tru ρ)) = _
          rw [mkBite_ok]
          cases ht : e.tru ρ
          · simp only [Bool.false_eq_true, if_false]
            rw [bool_ok (opc_ok (assume_ok hpc ht) hb hy)]
          · simp only [if_true]
            rw [bool_ok (opc_ok (assume_ok hpc ht) ha hx)]
        · cases h
    · cases h
  | alloc t =>
    simp only [ho, opAllocS] at h
    split at h
    · rename_i z hz; cases h; exact opAlloc_ok ok hW ho hz
    · cases h
  | box t x =>
    simp only [ho, opBoxS] at h hev
    split at h
    · rename_i z hz; cases h; exact opBox_ok ok hW ho (opp_ok hpc (hev x (by simp [Op.operands])) hz)
    · cases h
  | build t parts =>
    simp only [ho, opBuildS] at h hev
    split at h
    · rename_i z ps fs hz hps hu
      have hq := partsOf_ok hpc hps (fun p hp => hev p.2 (by simp [Op.operands]; exact ⟨p.1, by simpa using hp⟩))
      split at h
      · rename_i pl hpl
        split at h
        · rename_i l hl
          cases h
          refine opBuildS_ok ok hW ho hz hq hl ?_
          intro i x hi hx qs
          unfold Program.built
          simp only [hi, hu, hx, placesOf_ok hpl]
          simp
        · cases h
      · cases h
    · rename_i z ps n' e hz hps hu
      have hq := partsOf_ok hpc hps (fun p hp => hev p.2 (by simp [Op.operands]; exact ⟨p.1, by simpa using hp⟩))
      split at h
      · rename_i i hi
        split at h
        · rename_i l hl
          cases h
          refine opBuildS_ok ok hW ho hz hq hl ?_
          intro i' x hi' hx qs
          unfold Program.built
          simp only [hi', hu, hx, hi]
        · cases h
      · cases h
    · cases h
  | buildSlice t len parts =>
    simp only [ho, opBuildSliceS] at h hev
    split at h
    · rename_i e hu
      split at h
      · rename_i z ps hz hps
        have hq := partsOf_ok hpc hps (fun p hp => hev p.2 (by simp [Op.operands]; exact ⟨p.1, by simpa using hp⟩))
        split at h
        · rename_i hb
          simp only [Bool.and_eq_true] at hb
          split at h
          · rename_i l hl
            cases h
            exact opBuildSlice_ok ok hW ho hu hz hq (Nat.eq_of_beq_eq_true hb.1) (Nat.le_of_ble_eq_true hb.2.1) (Nat.le_of_ble_eq_true hb.2.2.1) (Nat.le_of_ble_eq_true hb.2.2.2) hl
          · cases h
        · cases h
      · cases h
    · cases h
  | load t a =>
    simp only [ho, opLoadS] at h hev
    split at h
    · rename_i b off hb
      obtain ⟨x, hx, e⟩ := map_some h
      cases e
      exact opLoad_ok hW ho (opc_ok hpc (hev a (by simp [Op.operands])) hb) hx
    · cases h
  | store t a x =>
    simp only [ho, opStoreS] at h hev
    split at h
    · rename_i b off u hb hu
      split at h
      · rename_i k hk
        split at h
        · rename_i hc
          simp only [Bool.and_eq_true] at hc
          cases h
          exact opStore_ok ok hW ho (opc_ok hpc (hev a (by simp [Op.operands])) hb) (opp_ok hpc (hev x (by simp [Op.operands])) hu) hk (Nat.eq_of_beq_eq_true hc.1) (Nat.le_of_ble_eq_true hc.2.1) (Nat.le_of_ble_eq_true hc.2.2)
        · cases h
      · cases h
    · cases h
  | nilCheck x =>
    simp only [ho, opNilCheckS] at h hev
    split at h
    · rename_i b off hb; cases h; exact opNil_ok hW ho (opc_ok hpc (hev x (by simp [Op.operands])) hb)
    · cases h
  | binOp op t x y t' =>
    simp only [ho, opBinOpS] at h hev
    have hx := hev x (by simp [Op.operands])
    have hy := hev y (by simp [Op.operands])
    split at h
    · rename_i a b ha hb
      have da := opp_ok hpc hx ha
      have db := opp_ok hpc hy hb
      split at h
      · rename_i u hu
        cases h
        exact opBin_ok hpc hW ho da db hu
      · split at h
        · rename_i e he; cases h; exact opEq_ok hpc hW ho da db he
        · cases h
    · cases h
  | unOp op t x =>
    simp only [ho, opUnOpS] at h hev
    have hx := hev x (by simp [Op.operands])
    split at h
    · rename_i e he; cases h; exact opUnNot_ok hW ho (opc_ok hpc hx he)
    · rename_i k e he; cases h; exact opUnNeg_ok hpc hW ho (opc_ok hpc hx he)
    · cases h
  | convert src dst x =>
    simp only [ho, opConvertS] at h hev
    have hx := hev x (by simp [Op.operands])
    split at h
    · rename_i k k' e hs hd he; cases h; exact opConv_ok hpc hW ho hs hd (opc_ok hpc hx he)
    · cases h
  | makeFunc fn first captured =>
    simp only [ho, opMakeFuncS] at h hev
    cases fn with
    | func f =>
      simp only [] at h
      split at h
      · rename_i a b ha hb
        cases h
        exact opMake_ok hW ho (ptrsOf_ok hpc ha (fun x hx => hev x (by simp [Op.operands]; exact .inl (by simpa using hx)))) (ptrsOf_ok hpc hb (fun x hx => hev x (by simp [Op.operands]; exact .inr (by simpa using hx))))
      · cases h
    | _ => cases h
  | fieldAddr t x i =>
    simp only [ho, opFieldAddrS] at h hev
    have hx := hev x (by simp [Op.operands])
    split at h
    · rename_i b off fs hb hu
      split at h
      · rename_i f hf
        split at h
        · rename_i hz
          cases h
          exact opFieldAddr_ok hW ho (opc_ok hpc hx hb) hu hf (by intro e; rw [e] at hz; cases hz)
        · cases h
      · cases h
    · cases h
  | field t x i =>
    simp only [ho, opFieldS] at h hev
    have hx := hev x (by simp [Op.operands])
    split at h
    · rename_i l fs hl hu
      split at h
      · rename_i f hf
        obtain ⟨u, hu', e⟩ := map_some h
        cases e
        exact opField_ok hW ho (opp_ok hpc hx hl) hu hf hu'
      · cases h
    · cases h
  | indexAddr t x y =>
    simp only [ho, opIndexAddrS] at h hev
    have hx := hev x (by simp [Op.operands])
    have hy := hev y (by simp [Op.operands])
    split at h
    · rename_i len e b off j hu hb hj
      obtain ⟨z, hz, hzj⟩ := bind_litP hj
      obtain ⟨k, hk⟩ := litP_ok hpc hzj (opp_ok hpc hy hz)
      split at h
      · rename_i hlt
        simp only [Bool.and_eq_true] at hlt
        cases h
        exact opIndexAddrA_ok hW ho (opc_ok hpc hx hb) hk hu (Nat.le_of_ble_eq_true hlt.1) (isSome_ex hlt.2)
      · cases h
    · rename_i e b off len cap j hu hb hj
      obtain ⟨z, hz, hzj⟩ := bind_litP hj
      obtain ⟨k, hk⟩ := litP_ok hpc hzj (opp_ok hpc hy hz)
      split at h
      · rename_i hlt
        simp only [Bool.and_eq_true] at hlt
        cases h
        obtain ⟨y', hy', he⟩ := slice_ok (opc_ok hpc hx hb)
        exact opIndexAddrS_ok hW ho he hk hu (Nat.le_of_ble_eq_true hlt.1) (isSome_ex hlt.2) (by simp [SV.den, SP.den, SC.den, hy'])
      · cases h
    · rename_i e b len j hu hb hj
      obtain ⟨z, hz, hzj⟩ := bind_litP hj
      obtain ⟨k, hk⟩ := litP_ok hpc hzj (opp_ok hpc hy hz)
      split at h
      · rename_i hlt
        simp only [Bool.and_eq_true] at hlt
        cases h
        obtain ⟨y', hy', he⟩ := row_ok (opc_ok hpc hx hb)
        exact opIndexAddrS_ok hW ho he hk hu (Nat.le_of_ble_eq_true hlt.1) (isSome_ex hlt.2) (by simp [SV.den, SP.den, SC.den, hy'])
      · cases h
    · cases h
  | index t x y =>
    simp only [ho, opIndexS] at h hev
    have hx := hev x (by simp [Op.operands])
    have hy := hev y (by simp [Op.operands])
    split at h
    · rename_i len e l j hu hb hj
      obtain ⟨z, hz, hzj⟩ := bind_litP hj
      obtain ⟨k, hk⟩ := litP_ok hpc hzj (opp_ok hpc hy hz)
      split at h
      · rename_i hlt
        simp only [Bool.and_eq_true] at hlt
        obtain ⟨u, hu', e'⟩ := map_some h
        cases e'
        exact opIndexA_ok hW ho (opp_ok hpc hx hb) hk hu (Nat.le_of_ble_eq_true hlt.1) (isSome_ex hlt.2) hu'
      · cases h
    · rename_i z j hu hb hj
      obtain ⟨z', hz, hzj⟩ := bind_litP hj
      obtain ⟨k, hk⟩ := litP_ok hpc hzj (opp_ok hpc hy hz)
      split at h
      · rename_i b hb'
        cases h
        exact opIndexT_ok hW ho (Option.some.inj (opp_ok hpc hx hb)).symm hk hu hb'
      · cases h
    · cases h
  | makeSlice t x y =>
    simp only [ho, opMakeSliceS] at h hev
    have hx := hev x (by simp [Op.operands])
    have hy := hev y (by simp [Op.operands])
    split at h
    · rename_i e n m hu hn hm
      obtain ⟨z1, hz1, hn⟩ := bind_litP hn
      obtain ⟨z2, hz2, hm⟩ := bind_litP hm
      obtain ⟨k1, hk1⟩ := litP_ok hpc hn (opp_ok hpc hx hz1)
      obtain ⟨k2, hk2⟩ := litP_ok hpc hm (opp_ok hpc hy hz2)
      split at h
      · rename_i z hb hz
        simp only [Bool.and_eq_true] at hb
        have := Nat.eq_of_beq_eq_true hb.1
        subst this
        cases h
        exact opMakeSlice_ok ok hW ho hu hk1 hk2 hb.2 hz
      · cases h
    · cases h
  | slice t x lo hi mx =>
    simp only [ho, opSliceS] at h hev
    cases lo with
    | some _ => cases h
    | none =>
      cases mx with
      | some _ => cases hi <;> cases h
      | none =>
        cases hi with
        | none => cases h
        | some y =>
          simp only [] at h
          have hx := hev x (by simp [Op.operands])
          have hy := hev y (by simp [Op.operands])
          split at h
          · rename_i e b len n hu hb hn
            obtain ⟨z1, hz1, hn⟩ := bind_litP hn
            obtain ⟨k1, hk1⟩ := litP_ok hpc hn (opp_ok hpc hy hz1)
            split at h
            · rename_i k hk
              split at h
              · rename_i r hr
                split at h
                · rename_i hle
                  simp only [Bool.and_eq_true] at hle
                  cases h
                  obtain ⟨q, hq, he⟩ := row_ok (opc_ok hpc hx hb)
                  obtain ⟨ad, cap, cs, cur, h1, _, _, _, _, _, h7⟩ := hW.blk b k hk
                  rw [hq] at h1
                  cases h1
                  unfold RowOk at h7
                  rw [hr] at h7
                  exact opSlice_ok hW ho hu (isSome_ex hle.2) he hk1 (by have := Nat.le_of_ble_eq_true hle.1; have := h7.2.1; omega) (fun b hb => by cases hb; rw [add_lit']) (by simp [SV.den, SP.den, SC.den, hq])
                · cases h
              · cases h
            · cases h
          · rename_i e n hu hb hn
            obtain ⟨z1, hz1, hn⟩ := bind_litP hn
            obtain ⟨k1, hk1⟩ := litP_ok hpc hn (opp_ok hpc hy hz1)
            split at h
            · rename_i hle
              simp only [Bool.and_eq_true] at hle
              have := Nat.eq_of_beq_eq_true hle.1
              subst this
              cases h
              exact opSlice_ok hW ho hu (isSome_ex hle.2) (Option.some.inj (opc_ok hpc hx hb)).symm hk1 (Nat.le_refl _) (fun b hb => by cases hb) rfl
            · cases h
          · cases h
  | extract x i =>
    simp only [ho, opExtractS] at h hev
    have hx := hev x (by simp [Op.operands])
    split at h
    · rename_i l hl
      split at h
      · rename_i u hu; cases h; exact opExtract_ok hW ho (hx _ hl) hu
      · cases h
    · cases h
  | call c =>
    obtain ⟨callee, args, argTypes⟩ := c
    simp only [ho, opCallS] at h hev
    cases callee with
    | builtin b =>
      simp only [] at h
      have hop : ∀ x ∈ args.toList, EvOk ρ β s ev x := fun x hx => hev x (by simp [Op.operands, Call.operands]; simpa using hx)
      split at h
      · rename_i x t ha ht
        have hx := hop x (by rw [ha]; simp)
        split at h
        · rename_i e b off len cap hu hb
          cases h
          obtain ⟨y, hy, he⟩ := slice_ok (opc_ok hpc hx hb)
          exact opLen_ok hW ho ha ht hu (.inl ⟨⟨_, rfl⟩, _, _, he⟩)
        · rename_i e b len hu hb
          cases h
          obtain ⟨y, hy, he⟩ := row_ok (opc_ok hpc hx hb)
          exact opLen_ok hW ho ha ht hu (.inl ⟨⟨_, rfl⟩, _, _, he⟩)
        · rename_i e hu hb
          cases h
          exact opLen_ok (n := 0) hW ho ha ht hu (.inl ⟨⟨_, rfl⟩, _, _, (Option.some.inj (opc_ok hpc hx hb)).symm⟩)
        · rename_i e i n hu hb
          split at h
          · rename_i l u hr
            split at h
            · rename_i hl
              cases h
              have h0 := (bnd_ok hpc hr).1
              have hl := intLe_le hl
              have h1 : (0 : Int) ≤ ρ.i n := by have : l ≤ ρ.i n := h0; omega
              have hd := opLen_ok hW ho ha ht hu (.inl ⟨⟨_, rfl⟩, _, _, (Option.some.inj (opc_ok hpc hx hb)).symm⟩)
              obtain ⟨β', w', x, q1, q2, q3⟩ := hd
              refine ⟨β', w', x, q1, ?_, q3⟩
              rw [← q2]
              show some (Value.int .i64 (ρ.i n)) = some (Value.int .i64 (((ρ.i n).toNat : Nat) : Int))
              rw [Int.toNat_of_nonneg h1]
            · cases h
          · cases h
        · rename_i z hu hb
          cases h
          exact opLen_ok hW ho ha ht hu (.inr ⟨rfl, z, (Option.some.inj (opc_ok hpc hx hb)).symm, rfl⟩)
        · cases h
      · rename_i x y t t' ha ht
        have hx := hop x (by rw [ha]; simp)
        have hy := hop y (by rw [ha]; simp)
        split at h
        · rename_i e u v htt hu hb1 hb2
          have := Nat.eq_of_beq_eq_true htt
          subst this
          split at h
          · rename_i n xs H' m news h1 h2
            split at h
            · rename_i hmb
              simp only [Bool.and_eq_true] at hmb
              cases h
              obtain ⟨_, _, _, _, _, _, _, hsm, _⟩ := bytesOk_ok ok hmb.2
              have hns : n + m ≤ 65536 := hsm
              exact opAppend_ok ok hW ho ha ht hu (ownS_ok hW h1 (by simp only [maxLen]; omega) (opc_ok hpc hx hb1)) (elemsS_ok hW h2 (opc_ok hpc hy hb2)) (Nat.le_of_ble_eq_true hmb.1) hmb.2
            · cases h
          · cases h
        · cases h
      · rename_i x y ha
        have hx := hop x (by rw [ha]; simp)
        have hy := hop y (by rw [ha]; simp)
        split at h
        · rename_i hb1 hb2
          cases h
          exact opMax_ok hpc hW ho ha (Option.some.inj (opc_ok hpc hx hb1)).symm (Option.some.inj (opc_ok hpc hy hb2)).symm
        · cases h
      · rename_i x y ha
        have hx := hop x (by rw [ha]; simp)
        have hy := hop y (by rw [ha]; simp)
        split at h
        · rename_i hb1 hb2
          cases h
          exact opMin_ok hpc hW ho ha (Option.some.inj (opc_ok hpc hx hb1)).symm (Option.some.inj (opc_ok hpc hy hb2)).symm
        · cases h
      · cases h
    | _ => cases h
  | _ => simp only [ho] at h; cases h
end
end Go.Proofs.Ytopfaapcekiojaa.Sym
