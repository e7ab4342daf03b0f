/- Every operation of the executor that calls no function of the program does what the model's does. -/
import Derived.Test.YtopfaapcekiojaaGreatSymC
import Derived.RangeFuncLeaves
import Derived.RangeFuncRecord
namespace Go.Proofs.YtopfaapcekiojaaGreat.Sym
open Go Go.RowKit Go.Proofs.YtopfaapcekiojaaGreat

section
variable {cx : Ctx} {ρ : Env} {B : Nat} {w0 w : World} {L : Lst} {β : Lay} {s : St} {pc : PC} {o : Oper} {ev : Operand → Value}
theorem ptrsOf_ok (hpc : PcOk ρ pc) : ∀ {l : List Operand} {a : List (Nat × Nat)}, ptrsOf s pc l = some a → (∀ x ∈ l, EvOk ρ β s ev x) → ptrs β a = some (l.map ev)
  | [], _, h, _ => by cases h; rfl
  | x :: r, a, h, he => by
    unfold ptrsOf at h
    split at h
    · rename_i b off l hx hl
      cases h
      obtain ⟨ad, cap, hb, hev⟩ := ptr_ok (opc_ok hpc (he x (by simp)) hx)
      unfold ptrs
      simp only [hb, ptrsOf_ok hpc hl (fun y hy => he y (by simp [hy])), List.map_cons, hev]
    · cases h
theorem partsOf_ok (hpc : PcOk ρ pc) : ∀ {l : List (Nat × Operand)} {a : List (Nat × SP)}, partsOf s pc l = some a → (∀ p ∈ l, EvOk ρ β s ev p.2) → denQ ρ β a = some (l.map fun p => (p.1, ev p.2))
  | [], _, h, _ => by cases h; rfl
  | (i, x) :: r, a, h, he => by
    unfold partsOf at h
    split at h
    · rename_i v l hx hl
      cases h
      have h1 := opp_ok hpc (he (i, x) (by simp)) hx
      unfold denQ
      simp only [h1, partsOf_ok hpc hl (fun y hy => he y (by simp [hy])), List.map_cons]
    · cases h
theorem bool_ok {e : SE} {u : Value} (h : (SC.bool e).den ρ β = some u) : u = .bool (e.tru ρ) := (Option.some.inj h).symm
theorem opLen_ok (hW : WR cx.P ρ B w0 L β s.H s.n w) {x : Operand} {t : TypeId} {args : Array Operand} {argTypes : Array TypeId} (ho : o.op = .call { callee := .builtin .len, args := args, argTypes := argTypes }) (ha : args.toList = [x]) (ht : argTypes.toList = [t]) {d : TypeDesc}
    (hu : cx.P.underlying t = some d) {n : Nat} (hx : ((∃ e, d = .slice e) ∧ ∃ a c, ev x = .slice a n c) ∨ (d = .string ∧ ∃ z : ByteArray, ev x = .string z ∧ z.size = n)) : Does cx ρ B w0 L β w ev o (.p (.c (.int .i64 (.lit n)))) s.H s.n := by
  refine does_value hW (x := .int .i64 n) rfl ?_
  have ha' : args = #[x] := Array.ext' (by simpa using ha)
  have ht' : argTypes = #[t] := Array.ext' (by simpa using ht)
  subst ha'; subst ht'
  have hr := run_underlying hu w
  rcases hx with ⟨⟨e, rfl⟩, a, c, hx⟩ | ⟨rfl, z, hx, hz⟩
  · simp [execOp, ho, resolve, invoke, builtin, Builtin.len_, hx, hr, goInt]
  · simp [execOp, ho, resolve, invoke, builtin, Builtin.len_, hx, hr, goInt, hz]
theorem opMax_ok (hpc : PcOk ρ pc) (hW : WR cx.P ρ B w0 L β s.H s.n w) {x y : Operand} {args : Array Operand} {argTypes : Array TypeId} (ho : o.op = .call { callee := .builtin .max, args := args, argTypes := argTypes }) (ha : args.toList = [x, y]) {k k' : IntKind} {a b : SE}
    (hx : ev x = .int k (a.int ρ)) (hy : ev y = .int k' (b.int ρ)) : Does cx ρ B w0 L β w ev o (.p (.c (.int k (chooseS pc (mkLt pc a b) b a)))) s.H s.n := by
  refine does_value hW (x := .int k (if b.int ρ > a.int ρ then b.int ρ else a.int ρ)) ?_ ?_
  · show some (Value.int k _) = _
    rw [chooseS_ok hpc, mkLt_ok hpc]
    simp only [decide_eq_true_eq]
  have ha' : args = #[x, y] := Array.ext' (by simpa using ha)
  subst ha'
  simp [execOp, ho, resolve, invoke, builtin, Builtin.max_, Builtin.max2, hx, hy]
theorem opMin_ok (hpc : PcOk ρ pc) (hW : WR cx.P ρ B w0 L β s.H s.n w) {x y : Operand} {args : Array Operand} {argTypes : Array TypeId} (ho : o.op = .call { callee := .builtin .min, args := args, argTypes := argTypes }) (ha : args.toList = [x, y]) {k k' : IntKind} {a b : SE}
    (hx : ev x = .int k (a.int ρ)) (hy : ev y = .int k' (b.int ρ)) : Does cx ρ B w0 L β w ev o (.p (.c (.int k (chooseS pc (mkLt pc b a) b a)))) s.H s.n := by
  refine does_value hW (x := .int k (if b.int ρ < a.int ρ then b.int ρ else a.int ρ)) ?_ ?_
  · show some (Value.int k _) = _
    rw [chooseS_ok hpc, mkLt_ok hpc]
    simp only [decide_eq_true_eq]
  have ha' : args = #[x, y] := Array.ext' (by simpa using ha)
  subst ha'
  simp [execOp, ho, resolve, invoke, builtin, Builtin.min_, Builtin.min2, hx, hy]
theorem map_some {α β : Type} {o : Option α} {f : α → β} {y : β} (h : o.map f = some y) : ∃ x, o = some x ∧ f x = y := by
  cases o with
  | none => cases h
  | some x => exact ⟨x, rfl, Option.some.inj h⟩
theorem isSome_ex {α : Type} {x : Option α} (h : x.isSome = true) : ∃ y, x = some y := Option.isSome_iff_exists.1 h
theorem opS_ok (ok : cx.Ok ρ) (hpc : PcOk ρ pc) (hW : WR cx.P ρ B w0 L β s.H s.n w) (hev : ∀ x ∈ o.op.operands.toList, EvOk ρ β s ev x) {v : SV} {H : List (Nat × Blk)} {n : Nat} (h : opS cx s pc o = some (v, H, n)) :
    Does cx ρ B w0 L β w ev o v H n := by
  unfold opS at h
  cases ho : o.op with
  | move x | assign x =>
    simp only [ho, opMoveS] at h hev
    have hx := hev x (by simp [Op.operands])
    split at h
    · rename_i c u hu
      have hd := hx _ hu
      split at h
      · rename_i hc
        cases h
        refine opMove_ok hW (by first | exact .inl ho | exact .inr ho) ?_
        have := dec_ok hpc hc
        simpa [SV.den, this] using hd
      · cases h
        exact opMove_ok hW (by first | exact .inl ho | exact .inr ho) hd
    · rename_i u _ hu
      cases h
      exact opMove_ok hW (by first | exact .inl ho | exact .inr ho) (hx _ hu)
    · cases h
  | pick c a b =>
    simp only [ho, opPickS] at h hev
    have hc := hev c (by simp [Op.operands])
    have ha := hev a (by simp [Op.operands])
    have hb := hev b (by simp [Op.operands])
    split at h
    · rename_i e he
      have ce := bool_ok (opc_ok hpc hc he)
      split at h
      · rename_i hd
        obtain ⟨x, hx, e'⟩ := map_some h
        cases e'
        refine opPick_ok hW ho ce ?_
        rw [dec_ok hpc hd]
        exact opp_ok hpc ha hx
      · rename_i hd
        obtain ⟨x, hx, e'⟩ := map_some h
        cases e'
        refine opPick_ok hW ho ce ?_
        rw [dec_ok hpc hd]
        exact opp_ok hpc hb hx
      · split at h
        · rename_i x y hx hy
          cases h
          refine opPick_ok hW ho ce ?_
          show some (Value.bool ((mkBite e x y).tru ρ)) = _
          rw [mkBite_ok]
          cases ht : e.tru ρ
          · simp only [Bool.false_eq_true, if_false]
            rw [bool_ok (opc_ok (assume_ok hpc ht) hb hy)]
          · simp only [if_true]
            rw [bool_ok (opc_ok (assume_ok hpc ht) ha hx)]
        · cases h
    · cases h
  | alloc t =>
    simp only [ho, opAllocS] at h
    split at h
    · rename_i z hz; cases h; exact opAlloc_ok ok hW ho hz
    · cases h
  | box t x =>
    simp only [ho, opBoxS] at h hev
    split at h
    · rename_i z hz; cases h; exact opBox_ok ok hW ho (opp_ok hpc (hev x (by simp [Op.operands])) hz)
    · cases h
  | build t parts =>
    simp only [ho, opBuildS] at h hev
    split at h
    · rename_i z ps fs hz hps hu
      have hq := partsOf_ok hpc hps (fun p hp => hev p.2 (by simp [Op.operands]; exact ⟨p.1, by simpa using hp⟩))
      split at h
      · rename_i pl hpl
        split at h
        · rename_i l hl
          cases h
          refine opBuildS_ok ok hW ho hz hq hl ?_
          intro i x hi hx qs
          unfold Program.built
          simp only [hi, hu, hx, placesOf_ok hpl]
          simp
        · cases h
      · cases h
    · rename_i z ps n' e hz hps hu
      have hq := partsOf_ok hpc hps (fun p hp => hev p.2 (by simp [Op.operands]; exact ⟨p.1, by simpa using hp⟩))
      split at h
      · rename_i i hi
        split at h
        · rename_i l hl
          cases h
          refine opBuildS_ok ok hW ho hz hq hl ?_
          intro i' x hi' hx qs
          unfold Program.built
          simp only [hi', hu, hx, hi]
        · cases h
      · cases h
    · cases h
  | buildSlice t len parts =>
    simp only [ho, opBuildSliceS] at h hev
    split at h
    · rename_i e hu
      split at h
      · rename_i z ps hz hps
        have hq := partsOf_ok hpc hps (fun p hp => hev p.2 (by simp [Op.operands]; exact ⟨p.1, by simpa using hp⟩))
        split at h
        · rename_i hb
          simp only [Bool.and_eq_true] at hb
          split at h
          · rename_i l hl
            cases h
            exact opBuildSlice_ok ok hW ho hu hz hq (Nat.eq_of_beq_eq_true hb.1) (Nat.le_of_ble_eq_true hb.2.1) (Nat.le_of_ble_eq_true hb.2.2.1) (Nat.le_of_ble_eq_true hb.2.2.2) hl
          · cases h
        · cases h
      · cases h
    · cases h
  | load t a =>
    simp only [ho, opLoadS] at h hev
    split at h
    · rename_i b off hb
      obtain ⟨x, hx, e⟩ := map_some h
      cases e
      exact opLoad_ok hW ho (opc_ok hpc (hev a (by simp [Op.operands])) hb) hx
    · cases h
  | store t a x =>
    simp only [ho, opStoreS] at h hev
    split at h
    · rename_i b off u hb hu
      split at h
      · rename_i k hk
        split at h
        · rename_i hc
          simp only [Bool.and_eq_true] at hc
          cases h
          exact opStore_ok ok hW ho (opc_ok hpc (hev a (by simp [Op.operands])) hb) (opp_ok hpc (hev x (by simp [Op.operands])) hu) hk (Nat.eq_of_beq_eq_true hc.1) (Nat.le_of_ble_eq_true hc.2.1) (Nat.le_of_ble_eq_true hc.2.2)
        · cases h
      · cases h
    · cases h
  | nilCheck x =>
    simp only [ho, opNilCheckS] at h hev
    split at h
    · rename_i b off hb; cases h; exact opNil_ok hW ho (opc_ok hpc (hev x (by simp [Op.operands])) hb)
    · cases h
  | binOp op t x y t' =>
    simp only [ho, opBinOpS] at h hev
    have hx := hev x (by simp [Op.operands])
    have hy := hev y (by simp [Op.operands])
    split at h
    · rename_i a b ha hb
      have da := opp_ok hpc hx ha
      have db := opp_ok hpc hy hb
      split at h
      · rename_i u hu
        cases h
        exact opBin_ok hpc hW ho da (by rw [shiftBy_ok hpc]; exact db) hu
      · split at h
        · rename_i e he; cases h; exact opEq_ok hpc hW ho da db he
        · cases h
    · cases h
  | unOp op t x =>
    simp only [ho, opUnOpS] at h hev
    have hx := hev x (by simp [Op.operands])
    split at h
    · rename_i e he; cases h; exact opUnNot_ok hW ho (opc_ok hpc hx he)
    · rename_i k e he; cases h; exact opUnNeg_ok hpc hW ho (opc_ok hpc hx he)
    · rename_i k e he; cases h; exact opUnXor_ok hW ho (opc_ok hpc hx he)
    · cases h
  | convert src dst x =>
    simp only [ho, opConvertS] at h hev
    have hx := hev x (by simp [Op.operands])
    split at h
    · rename_i k k' e hs hd he; cases h; exact opConv_ok hpc hW ho hs hd (opc_ok hpc hx he)
    · cases h
  | makeFunc fn first captured =>
    simp only [ho, opMakeFuncS] at h hev
    cases fn with
    | func f =>
      simp only [] at h
      split at h
      · rename_i a b ha hb
        cases h
        exact opMake_ok hW ho (ptrsOf_ok hpc ha (fun x hx => hev x (by simp [Op.operands]; exact .inl (by simpa using hx)))) (ptrsOf_ok hpc hb (fun x hx => hev x (by simp [Op.operands]; exact .inr (by simpa using hx))))
      · cases h
    | _ => cases h
  | fieldAddr t x i =>
    simp only [ho, opFieldAddrS] at h hev
    have hx := hev x (by simp [Op.operands])
    split at h
    · rename_i b off fs hb hu
      split at h
      · rename_i f hf
        split at h
        · rename_i hz
          cases h
          exact opFieldAddr_ok hW ho (opc_ok hpc hx hb) hu hf (by intro e; rw [e] at hz; cases hz)
        · cases h
      · cases h
    · cases h
  | field t x i =>
    simp only [ho, opFieldS] at h hev
    have hx := hev x (by simp [Op.operands])
    split at h
    · rename_i l fs hl hu
      split at h
      · rename_i f hf
        obtain ⟨u, hu', e⟩ := map_some h
        cases e
        exact opField_ok hW ho (opp_ok hpc hx hl) hu hf hu'
      · cases h
    · cases h
  | indexAddr t x y =>
    simp only [ho, opIndexAddrS] at h hev
    have hx := hev x (by simp [Op.operands])
    have hy := hev y (by simp [Op.operands])
    split at h
    · rename_i len e b off j hu hb hj
      obtain ⟨z, hz, hzj⟩ := bind_litP hj
      obtain ⟨k, hk⟩ := litP_ok hpc hzj (opp_ok hpc hy hz)
      split at h
      · rename_i hlt
        simp only [Bool.and_eq_true] at hlt
        cases h
        exact opIndexAddrA_ok hW ho (opc_ok hpc hx hb) hk hu (Nat.le_of_ble_eq_true hlt.1) (isSome_ex hlt.2)
      · cases h
    · rename_i e b off len cap j hu hb hj
      obtain ⟨z, hz, hzj⟩ := bind_litP hj
      obtain ⟨k, hk⟩ := litP_ok hpc hzj (opp_ok hpc hy hz)
      split at h
      · rename_i hlt
        simp only [Bool.and_eq_true] at hlt
        cases h
        obtain ⟨y', hy', he⟩ := slice_ok (opc_ok hpc hx hb)
        exact opIndexAddrS_ok hW ho he hk hu (Nat.le_of_ble_eq_true hlt.1) (isSome_ex hlt.2) (by simp [SV.den, SP.den, SC.den, hy'])
      · cases h
    · rename_i e b len j hu hb hj
      obtain ⟨z, hz, hzj⟩ := bind_litP hj
      obtain ⟨k, hk⟩ := litP_ok hpc hzj (opp_ok hpc hy hz)
      split at h
      · rename_i hlt
        simp only [Bool.and_eq_true] at hlt
        cases h
        obtain ⟨y', hy', he⟩ := row_ok (opc_ok hpc hx hb)
        exact opIndexAddrS_ok hW ho he hk hu (Nat.le_of_ble_eq_true hlt.1) (isSome_ex hlt.2) (by simp [SV.den, SP.den, SC.den, hy'])
      · cases h
    · cases h
  | index t x y =>
    simp only [ho, opIndexS] at h hev
    have hx := hev x (by simp [Op.operands])
    have hy := hev y (by simp [Op.operands])
    split at h
    · rename_i len e l j hu hb hj
      obtain ⟨z, hz, hzj⟩ := bind_litP hj
      obtain ⟨k, hk⟩ := litP_ok hpc hzj (opp_ok hpc hy hz)
      split at h
      · rename_i hlt
        simp only [Bool.and_eq_true] at hlt
        obtain ⟨u, hu', e'⟩ := map_some h
        cases e'
        exact opIndexA_ok hW ho (opp_ok hpc hx hb) hk hu (Nat.le_of_ble_eq_true hlt.1) (isSome_ex hlt.2) hu'
      · cases h
    · rename_i z j hu hb hj
      obtain ⟨z', hz, hzj⟩ := bind_litP hj
      obtain ⟨k, hk⟩ := litP_ok hpc hzj (opp_ok hpc hy hz)
      split at h
      · rename_i b hb'
        cases h
        exact opIndexT_ok hW ho (Option.some.inj (opp_ok hpc hx hb)).symm hk hu hb'
      · cases h
    · cases h
  | makeSlice t x y =>
    simp only [ho, opMakeSliceS] at h hev
    have hx := hev x (by simp [Op.operands])
    have hy := hev y (by simp [Op.operands])
    split at h
    · rename_i e n m hu hn hm
      obtain ⟨z1, hz1, hn⟩ := bind_litP hn
      obtain ⟨z2, hz2, hm⟩ := bind_litP hm
      obtain ⟨k1, hk1⟩ := litP_ok hpc hn (opp_ok hpc hx hz1)
      obtain ⟨k2, hk2⟩ := litP_ok hpc hm (opp_ok hpc hy hz2)
      split at h
      · rename_i z hb hz
        simp only [Bool.and_eq_true] at hb
        have := Nat.eq_of_beq_eq_true hb.1
        subst this
        cases h
        exact opMakeSlice_ok ok hW ho hu hk1 hk2 hb.2 hz
      · cases h
    · cases h
  | slice t x lo hi mx =>
    simp only [ho, opSliceS] at h hev
    cases lo with
    | some _ => cases h
    | none =>
      cases mx with
      | some _ => cases hi <;> cases h
      | none =>
        cases hi with
        | none => cases h
        | some y =>
          simp only [] at h
          have hx := hev x (by simp [Op.operands])
          have hy := hev y (by simp [Op.operands])
          split at h
          · rename_i e b len n hu hb hn
            obtain ⟨z1, hz1, hn⟩ := bind_litP hn
            obtain ⟨k1, hk1⟩ := litP_ok hpc hn (opp_ok hpc hy hz1)
            split at h
            · rename_i k hk
              split at h
              · rename_i r hr
                split at h
                · rename_i hle
                  simp only [Bool.and_eq_true] at hle
                  cases h
                  obtain ⟨q, hq, he⟩ := row_ok (opc_ok hpc hx hb)
                  obtain ⟨ad, cap, cs, cur, h1, _, _, _, _, _, h7⟩ := hW.blk b k hk
                  rw [hq] at h1
                  cases h1
                  unfold RowOk at h7
                  rw [hr] at h7
                  exact opSlice_ok hW ho hu (isSome_ex hle.2) he hk1 (by have := Nat.le_of_ble_eq_true hle.1; have := h7.2.1; omega) (fun b hb => by cases hb; rw [add_lit']) (by simp [SV.den, SP.den, SC.den, hq])
                · cases h
              · cases h
            · cases h
          · rename_i e n hu hb hn
            obtain ⟨z1, hz1, hn⟩ := bind_litP hn
            obtain ⟨k1, hk1⟩ := litP_ok hpc hn (opp_ok hpc hy hz1)
            split at h
            · rename_i hle
              simp only [Bool.and_eq_true] at hle
              have := Nat.eq_of_beq_eq_true hle.1
              subst this
              cases h
              exact opSlice_ok hW ho hu (isSome_ex hle.2) (Option.some.inj (opc_ok hpc hx hb)).symm hk1 (Nat.le_refl _) (fun b hb => by cases hb) rfl
            · cases h
          · cases h
  | extract x i =>
    simp only [ho, opExtractS] at h hev
    have hx := hev x (by simp [Op.operands])
    split at h
    · rename_i l hl
      split at h
      · rename_i u hu; cases h; exact opExtract_ok hW ho (hx _ hl) hu
      · cases h
    · cases h
  | call c =>
    obtain ⟨callee, args, argTypes⟩ := c
    simp only [ho, opCallS] at h hev
    cases callee with
    | builtin b =>
      simp only [] at h
      have hop : ∀ x ∈ args.toList, EvOk ρ β s ev x := fun x hx => hev x (by simp [Op.operands, Call.operands]; simpa using hx)
      split at h
      · rename_i x t ha ht
        have hx := hop x (by rw [ha]; simp)
        split at h
        · rename_i e b off len cap hu hb
          cases h
          obtain ⟨y, hy, he⟩ := slice_ok (opc_ok hpc hx hb)
          exact opLen_ok hW ho ha ht hu (.inl ⟨⟨_, rfl⟩, _, _, he⟩)
        · rename_i e b len hu hb
          cases h
          obtain ⟨y, hy, he⟩ := row_ok (opc_ok hpc hx hb)
          exact opLen_ok hW ho ha ht hu (.inl ⟨⟨_, rfl⟩, _, _, he⟩)
        · rename_i e hu hb
          cases h
          exact opLen_ok (n := 0) hW ho ha ht hu (.inl ⟨⟨_, rfl⟩, _, _, (Option.some.inj (opc_ok hpc hx hb)).symm⟩)
        · rename_i e i n hu hb
          split at h
          · rename_i l u hr
            split at h
            · rename_i hl
              cases h
              have h0 := (bnd_ok hpc hr).1
              have hl := intLe_le hl
              have h1 : (0 : Int) ≤ ρ.i n := by have : l ≤ ρ.i n := h0; omega
              have hd := opLen_ok hW ho ha ht hu (.inl ⟨⟨_, rfl⟩, _, _, (Option.some.inj (opc_ok hpc hx hb)).symm⟩)
              obtain ⟨β', w', x, q1, q2, q3⟩ := hd
              refine ⟨β', w', x, q1, ?_, q3⟩
              rw [← q2]
              show some (Value.int .i64 (ρ.i n)) = some (Value.int .i64 (((ρ.i n).toNat : Nat) : Int))
              rw [Int.toNat_of_nonneg h1]
            · cases h
          · cases h
        · rename_i z hu hb
          cases h
          exact opLen_ok hW ho ha ht hu (.inr ⟨rfl, z, (Option.some.inj (opc_ok hpc hx hb)).symm, rfl⟩)
        · cases h
      · rename_i x y t t' ha ht
        have hx := hop x (by rw [ha]; simp)
        have hy := hop y (by rw [ha]; simp)
        split at h
        · rename_i e u v htt hu hb1 hb2
          have := Nat.eq_of_beq_eq_true htt
          subst this
          split at h
          · rename_i n xs H' m news h1 h2
            split at h
            · rename_i hmb
              simp only [Bool.and_eq_true] at hmb
              cases h
              obtain ⟨_, _, _, _, _, _, _, hsm, _⟩ := bytesOk_ok ok hmb.2
              have hns : n + m ≤ 65536 := hsm
              exact opAppend_ok ok hW ho ha ht hu (ownS_ok hW h1 (by simp only [maxLen]; omega) (opc_ok hpc hx hb1)) (elemsS_ok hW h2 (opc_ok hpc hy hb2)) (Nat.le_of_ble_eq_true hmb.1) hmb.2
            · cases h
          · cases h
        · cases h
      · rename_i x y ha
        have hx := hop x (by rw [ha]; simp)
        have hy := hop y (by rw [ha]; simp)
        split at h
        · rename_i hb1 hb2
          cases h
          exact opMax_ok hpc hW ho ha (Option.some.inj (opc_ok hpc hx hb1)).symm (Option.some.inj (opc_ok hpc hy hb2)).symm
        · cases h
      · rename_i x y ha
        have hx := hop x (by rw [ha]; simp)
        have hy := hop y (by rw [ha]; simp)
        split at h
        · rename_i hb1 hb2
          cases h
          exact opMin_ok hpc hW ho ha (Option.some.inj (opc_ok hpc hx hb1)).symm (Option.some.inj (opc_ok hpc hy hb2)).symm
        · cases h
      · cases h
    | _ => cases h
  | _ => simp only [ho] at h; cases h
end
end Go.Proofs.YtopfaapcekiojaaGreat.Sym

/- The executor's run of code: what holds at its leaves holds of the model's run. -/
namespace Go.Proofs.YtopfaapcekiojaaGreat.Sym
open Go Go.RowKit Go.Proofs.YtopfaapcekiojaaGreat

def LS.state : LS → LoopState
  | .ready => .ready
  | .busy => .busy
  | _ => .done
def LS.pend : LS → Option Code
  | .ret => some .ret
  | .out id => some (.exit id)
  | _ => none
/-- the record of a loop over a function is as it is told -/
structure LoopIs (ρ : Env) (β : Lay) (r : Rec) (st : LS) (lo : Loop) : Prop where
  ps : lo.params.toList = r.ps
  assign : lo.assign = r.assign
  body : lo.body = r.body
  size : lo.tmps.size = r.nt
  frame : ∀ t v, lk r.F t = some v → ∃ x, v.den ρ β = some x ∧ lo.tmps[t]? = some x
  state : lo.state = st.state
  pend : lo.pending = st.pend
structure LoopsOk (ρ : Env) (ys : List (Nat × Rec)) (lp : List (Nat × LS)) (β : Lay) (L : Lst) : Prop where
  each : ∀ b r, lk ys b = some r → ∃ l c lo st, β b = some (l, c) ∧ (l, lo) ∈ L.ls ∧ lk lp b = some st ∧ LoopIs ρ β r st lo
  inj : ∀ b c r r' x y, lk ys b = some r → lk ys c = some r' → β b = some x → β c = some y → x.1 = y.1 → b = c
/-- the activation's own marks, and those of its callers -/
def mark (D : Nat) : Deferred := { target := .collected D, args := #[] }
structure MarksOk (D0 : List Nat) (L : Lst) (d : List Deferred) : Prop where
  own : ∃ ds : List Nat, d = ds.map mark ∧ ds.Nodup ∧ ∀ D ∈ ds, D ∈ L.ds ∧ D ∉ D0
  old : ∀ D ∈ D0, D ∈ L.ds
theorem LoopIs.le {ρ : Env} {β β' : Lay} (h : β.le β') {r : Rec} {st : LS} {lo : Loop} (k : LoopIs ρ β r st lo) : LoopIs ρ β' r st lo :=
  ⟨k.ps, k.assign, k.body, k.size, fun t v hv => by obtain ⟨x, hx, ht⟩ := k.frame t v hv; exact ⟨x, SV.den_le h hx, ht⟩, k.state, k.pend⟩
theorem LoopsOk.le {ρ : Env} {ys : List (Nat × Rec)} {lp : List (Nat × LS)} {β β' : Lay} {L : Lst} (h : β.le β') (k : LoopsOk ρ ys lp β L) : LoopsOk ρ ys lp β' L := by
  refine ⟨fun b r hb => ?_, fun b c r r' x y hb hc hx hy e => ?_⟩
  · obtain ⟨l, c, lo, st, h1, h2, h3, h4⟩ := k.each b r hb
    exact ⟨l, c, lo, st, h _ _ h1, h2, h3, h4.le h⟩
  · obtain ⟨l, q, _, _, h1, _⟩ := k.each b r hb
    obtain ⟨l', q', _, _, h1', _⟩ := k.each c r' hc
    rw [h _ _ h1] at hx; rw [h _ _ h1'] at hy
    cases hx; cases hy
    exact k.inj b c r r' _ _ hb hc h1 h1' e
theorem LoopsOk.ls {ρ : Env} {ys : List (Nat × Rec)} {lp : List (Nat × LS)} {β : Lay} {L L' : Lst} (k : LoopsOk ρ ys lp β L) (h : L'.ls = L.ls) : LoopsOk ρ ys lp β L' :=
  ⟨fun b r hb => by obtain ⟨l, c, lo, st, h1, h2, h3⟩ := k.each b r hb; exact ⟨l, c, lo, st, h1, by rw [h]; exact h2, h3⟩, k.inj⟩
def Lst.set (L : Lst) (l : Nat) (lo : Loop) : Lst := ⟨L.ds, (l, lo) :: L.ls.filter (fun p => p.1 != l)⟩
theorem lk_setLp (b c : Nat) (k : LS) : ∀ H : List (Nat × LS), lk (setLp H b k) c = if c = b then (lk H b).map fun _ => k else lk H c
  | [] => by simp [setLp, lk]
  | (u, v) :: r => by
    unfold setLp
    have ih := lk_setLp b c k r
    cases hb : Nat.beq b u with
    | true =>
      have e := Nat.eq_of_beq_eq_true hb
      simp only [lk_cons]
      subst e
      by_cases hc : c = b <;> simp [hc]
    | false =>
      have e : b ≠ u := by rintro rfl; simp at hb
      simp only [lk_cons, ih]
      by_cases hc : c = u
      · have : c ≠ b := by rintro rfl; exact e hc
        rw [if_pos hc, if_neg this, if_pos hc]
      · rw [if_neg hc]
        by_cases hcb : c = b
        · rw [if_pos hcb, if_pos hcb, if_neg e]
        · rw [if_neg hcb, if_neg hcb, if_neg hc]
theorem LoopsOk.set {ρ : Env} {ys : List (Nat × Rec)} {lp : List (Nat × LS)} {β : Lay} {L : Lst} (h : LoopsOk ρ ys lp β L) {b : Nat} {r : Rec} (hb : lk ys b = some r) {l c : Nat} (hβ : β b = some (l, c)) {st : LS} {lo : Loop} (hi : LoopIs ρ β r st lo) :
    LoopsOk ρ ys (setLp lp b st) β (L.set l lo) := by
  refine ⟨fun q r' hq => ?_, h.inj⟩
  obtain ⟨l', c', lo', st', h1, h2, h3, h4⟩ := h.each q r' hq
  by_cases e : q = b
  · subst e
    rw [hb] at hq; cases hq
    rw [hβ] at h1; cases h1
    refine ⟨l, c, lo, st, hβ, List.mem_cons_self, ?_, hi⟩
    rw [lk_setLp, if_pos rfl, h3]; rfl
  · refine ⟨l', c', lo', st', h1, List.mem_cons_of_mem _ (List.mem_filter.2 ⟨h2, ?_⟩), ?_, h4⟩
    · have : l' ≠ l := fun e' => e (h.inj q b r' r _ _ hq hb h1 hβ e')
      simpa using this
    · rw [lk_setLp, if_neg e]; exact h3
theorem WR.setLoop {P : Program} {ρ : Env} {B : Nat} {w0 w : World} {L : Lst} {β : Lay} {H : List (Nat × Blk)} {n : Nat} (h : WR P ρ B w0 L β H n w) {l : Nat} {lo0 lo : Loop} (hl : (l, lo0) ∈ L.ls) : WR P ρ B w0 (L.set l lo) β H n (w.putObj l (.loop lo)) := by
  obtain ⟨hB, hh⟩ := h.ls _ hl
  refine h.putObj hh (by intro _ _ _ e; cases e) hB (fun D hD => ⟨hD, ?_⟩) (fun p hp => ?_)
  · rintro rfl
    have := (h.ds D hD).2
    rw [hh] at this
    cases this
  · rcases List.mem_cons.1 hp with rfl | hp
    · exact .inr ⟨rfl, rfl⟩
    · obtain ⟨h1, h2⟩ := List.mem_filter.1 hp
      exact .inl ⟨h1, by simpa using h2⟩
/-- a state and an activation -/
structure RelS (cx : Ctx) (ρ : Env) (B : Nat) (w0 : World) (D0 : List Nat) (ys : List (Nat × Rec)) (L : Lst) (s : St) (β : Lay) (a : Act) (w : World) : Prop where
  frame : ∀ t v, lk s.F t = some v → ∃ x, v.den ρ β = some x ∧ a.tmps[t]? = some x
  size : a.tmps.size = s.nt
  wr : WR cx.P ρ B w0 L β s.H s.n w
  pc : PcOk ρ s.pc
  loops : LoopsOk ρ ys s.lp β L
  marks : MarksOk D0 L a.defers
/-- the fences that are met: none; a round's body -/
def FOk : Bool → Fence → Prop
  | false, F => F = Fence.wide
  | true, F => ∃ l, F = Fence.wide.inRound l
theorem FOk.fn {inr : Bool} {F : Fence} (h : FOk inr F) (f : FuncId) : F.fn f := by
  cases inr
  · cases h; trivial
  · obtain ⟨l, rfl⟩ := h; trivial
theorem FOk.depth {inr : Bool} {F : Fence} (h : FOk inr F) : F.depth = none := by
  cases inr
  · cases h; rfl
  · obtain ⟨l, rfl⟩ := h; rfl
theorem FOk.calls {inr : Bool} {F : Fence} (h : FOk inr F) {n : Nat} {P : Program} {f : FuncId} {args : Array Value} {w : World} {R : Ending → World → Prop} (hc : Calls P f args w R) : CallsIn F n P f args w R := by
  cases inr
  · cases h; exact callsIn_wide.2 hc
  · obtain ⟨l, rfl⟩ := h; exact CallsIn.inRound l (callsIn_wide.2 hc)
theorem FOk.round {inr : Bool} {F : Fence} (h : FOk inr F) (l : Nat) : FOk true (F.inRound l) := by
  cases inr
  · cases h; exact ⟨l, rfl⟩
  · obtain ⟨l', rfl⟩ := h; exact ⟨l, rfl⟩
/-- what is asked at a leaf -/
def Post (cx : Ctx) (ρ : Env) (B : Nat) (w0 : World) (D0 : List Nat) (ys : List (Nat × Rec)) (β : Lay) (Q : Exit → Act → World → Prop) (x : SX) (s : St) : Prop :=
  ∀ β' L' a' w', β.le β' → RelS cx ρ B w0 D0 ys L' s β' a' w' → Q x.out a' w'
theorem Post.le {cx : Ctx} {ρ : Env} {B : Nat} {w0 : World} {D0 : List Nat} {ys : List (Nat × Rec)} {β β' : Lay} {Q : Exit → Act → World → Prop} (h : β.le β') {x : SX} {s : St} (hp : Post cx ρ B w0 D0 ys β Q x s) : Post cx ρ B w0 D0 ys β' Q x s :=
  fun β2 L' a' w' hle hr => hp β2 L' a' w' (Lay.le_trans h hle) hr
/-- a runner of code that is right -/
def Goes (cx : Ctx) (ρ : Env) (ys : List (Nat × Rec)) (inr : Bool) (go : Code → St → Tree) : Prop :=
  ∀ (F : Fence) (n : Nat), FOk inr F → ∀ (D0 : List Nat) (L : Lst) (c : Code) (s : St) (β : Lay) (a : Act) (w : World) (Q : Exit → Act → World → Prop), RelS cx ρ ρ.B ρ.w0 D0 ys L s β a w →
    (go c s).Holds ρ (Post cx ρ ρ.B ρ.w0 D0 ys β Q) → c.wpIn F n cx.P Q a w
/-- what is asked of the contracts -/
def SumsOk (cx : Ctx) (ρ : Env) : Prop :=
  ∀ f g, lk cx.sums f = some g → ∀ pc H args v, g pc H args = some v → PcOk ρ pc → ∀ (L : Lst) (β : Lay) vals w n, WR cx.P ρ ρ.B ρ.w0 L β H n w → denA ρ β args = some vals → ∃ x, v.den ρ β = some x ∧ Calls cx.P f vals.toArray w (Ret x w)

section
variable {cx : Ctx} {ρ : Env} {B : Nat} {w0 w : World} {D0 : List Nat} {ys : List (Nat × Rec)} {L : Lst} {β : Lay} {s : St} {a : Act} {o : Oper}
theorem RelS.ev (h : RelS cx ρ B w0 D0 ys L s β a w) (x : Operand) : EvOk ρ β s a.eval x := by
  intro v hv
  unfold opv at hv
  split at hv
  · obtain ⟨y, hy, ht⟩ := h.frame _ _ hv
    rw [hy]
    show _ = some (a.tmps.getD _ Go.undef)
    rw [Array.getD_eq_getD_getElem?, ht]
    rfl
  · obtain ⟨y, hy, e⟩ := map_some hv
    cases e
    exact absP_ok hy
  · cases hv; rfl
  · cases hv
theorem put_get (a : Act) (d t : Nat) (x : Value) : (a.put (some d) x).tmps[t]? = if d = t ∧ t < a.tmps.size then some x else a.tmps[t]? := by
  show (a.tmps.setIfInBounds d x)[t]? = _
  rw [Array.getElem?_setIfInBounds]
  by_cases h : d = t
  · subst h
    by_cases hl : d < a.tmps.size
    · simp [hl]
    · simp [hl]
  · simp [h]
theorem put_defers (a : Act) (dst : Option Tmp) (x : Value) : (a.put dst x).defers = a.defers := by cases dst <;> rfl
theorem putS_gen (hf : ∀ t v, lk s.F t = some v → ∃ x, v.den ρ β = some x ∧ a.tmps[t]? = some x) (hsz : a.tmps.size = s.nt) (hpc : PcOk ρ s.pc) {L' : Lst} {β' : Lay} {w' : World} {dst : Option Tmp} {v : SV} {x : Value} {H : List (Nat × Blk)} {n : Nat} {s' : St} (hle : β.le β') (hv : v.den ρ β' = some x)
    (hW : WR cx.P ρ B w0 L' β' H n w') (hl : LoopsOk ρ ys s.lp β' L') (hm : MarksOk D0 L' a.defers) (hp : putS s dst v H n = some s') : RelS cx ρ B w0 D0 ys L' s' β' (a.put dst x) w' := by
  rw [putS_def] at hp
  cases dst with
  | none =>
    cases hp
    exact ⟨fun t u hu => by obtain ⟨y, hy, ht⟩ := hf t u hu; exact ⟨y, SV.den_le hle hy, ht⟩, hsz, hW, hpc, hl, hm⟩
  | some d =>
    simp only [] at hp
    split at hp
    · rename_i hd
      have hd : d < s.nt := Nat.le_of_ble_eq_true hd
      cases hp
      refine ⟨?_, ?_, hW, hpc, hl, hm⟩
      · intro t u hu
        replace hu : lk ((d, v) :: s.F) t = some u := hu
        rw [lk_cons] at hu
        by_cases e : t = d
        · rw [if_pos e] at hu
          cases hu
          subst e
          exact ⟨x, hv, by rw [put_get, if_pos ⟨rfl, by rw [hsz]; exact hd⟩]⟩
        · rw [if_neg e] at hu
          obtain ⟨y, hy, ht⟩ := hf t u hu
          exact ⟨y, SV.den_le hle hy, by rw [put_get, if_neg (fun q => e q.1.symm)]; exact ht⟩
      · show (a.tmps.setIfInBounds d x).size = s.nt
        rw [Array.size_setIfInBounds]
        exact hsz
    · cases hp
theorem putS_ok (h : RelS cx ρ B w0 D0 ys L s β a w) {β' : Lay} {w' : World} {dst : Option Tmp} {v : SV} {x : Value} {H : List (Nat × Blk)} {n : Nat} {s' : St} (hle : β.le β') (hv : v.den ρ β' = some x) (hW : WR cx.P ρ B w0 L β' H n w') (hp : putS s dst v H n = some s') :
    RelS cx ρ B w0 D0 ys L s' β' (a.put dst x) w' :=
  putS_gen h.frame h.size h.pc hle hv hW (h.loops.le hle) h.marks hp
theorem denA_append {β : Lay} : ∀ {l m : List SV} {vs us : List Value}, denA ρ β l = some vs → denA ρ β m = some us → denA ρ β (l ++ m) = some (vs ++ us)
  | [], _, _, _, e, e' => by cases e; exact e'
  | x :: r, m, vs, us, e, e' => by
    unfold denA at e
    cases hx : x.den ρ β with
    | none => simp [hx] at e
    | some v =>
      cases hr : denA ρ β r with
      | none => simp [hx, hr] at e
      | some l => simp only [hx, hr] at e; cases e; show denA ρ β (x :: (r ++ m)) = _; unfold denA; simp only [hx, denA_append hr e']; rfl
theorem ptrSV_ok : ∀ {l : List (Nat × Nat)} {vs : List Value}, ptrs β l = some vs → denA ρ β (ptrSV l) = some vs
  | [], _, e => by cases e; rfl
  | (b, off) :: r, vs, e => by
    unfold ptrs at e
    cases hb : β b with
    | none => simp [hb] at e
    | some x =>
      cases hr : ptrs β r with
      | none => simp [hb, hr] at e
      | some l =>
        simp only [hb, hr] at e
        cases e
        unfold ptrSV denA
        simp only [SV.den, SP.den, SC.den, hb, Option.map_some, ptrSV_ok hr]
theorem argsS_ok (h : RelS cx ρ B w0 D0 ys L s β a w) : ∀ {xs : List Operand} {l : List SV}, argsS s xs = some l → denA ρ β l = some (xs.map a.eval)
  | [], _, e => by cases e; rfl
  | x :: r, l, e => by
    unfold argsS at e
    split at e
    · rename_i v l' hx hl
      cases e
      unfold denA
      have := opp_ok h.pc (h.ev x) hx
      simp only [SV.den, this, argsS_ok h hl, List.map_cons]
    · cases e
theorem denA_get {β : Lay} : ∀ {l : List SV} {vs : List Value}, denA ρ β l = some vs → ∀ (i j : Nat) (v : SV), lk (slots i l) j = some v → ∃ x, v.den ρ β = some x ∧ i ≤ j ∧ vs[j - i]? = some x
  | [], _, _, _, _, _, h => by cases h
  | y :: r, vs, e, i, j, v, h => by
    unfold denA at e
    cases hx : y.den ρ β with
    | none => simp [hx] at e
    | some u =>
      cases hr : denA ρ β r with
      | none => simp [hx, hr] at e
      | some l =>
        simp only [hx, hr] at e; cases e
        replace h : lk ((i, y) :: slots (i + 1) r) j = some v := h
        rw [lk_cons] at h
        split at h
        · rename_i e; cases h; subst e; exact ⟨u, hx, Nat.le_refl _, by simp⟩
        · obtain ⟨x, hx', hle, hg⟩ := denA_get hr (i + 1) j v h
          refine ⟨x, hx', by omega, ?_⟩
          rw [show j - i = (j - (i + 1)) + 1 by omega, List.getElem?_cons_succ]
          exact hg
theorem denA_length {β : Lay} : ∀ {l : List SV} {vs : List Value}, denA ρ β l = some vs → vs.length = l.length
  | [], _, e => by cases e; rfl
  | x :: r, vs, e => by
    unfold denA at e
    cases hx : x.den ρ β with
    | none => simp [hx] at e
    | some v =>
      cases hr : denA ρ β r with
      | none => simp [hx, hr] at e
      | some l => simp only [hx, hr] at e; cases e; simp [denA_length hr]
/-- the callee's first state -/
theorem enter_ok {H : List (Nat × Blk)} {n : Nat} {pc : PC} {lp : List (Nat × LS)} (hW : WR cx.P ρ B w0 L β H n w) (hpc : PcOk ρ pc) (hl : LoopsOk ρ ys lp β L) {args : List SV} {vals : List Value} (ha : denA ρ β args = some vals) {nt : Nat} (hn : args.length ≤ nt) :
    RelS cx ρ B w0 L.ds ys L { F := slots 0 args, H := H, n := n, pc := pc, nt := nt, lp := lp } β { tmps := vals.toArray ++ Array.replicate (nt - vals.toArray.size) Go.undef, defers := [] } w := by
  have hlen := denA_length ha
  refine ⟨?_, ?_, hW, hpc, hl, ⟨⟨[], rfl, List.nodup_nil, fun D hD => by cases hD⟩, fun D hD => hD⟩⟩
  · intro t v hv
    obtain ⟨x, hx, _, hg⟩ := denA_get ha 0 t v hv
    refine ⟨x, hx, ?_⟩
    have hlt : t < vals.length := by
      rcases Nat.lt_or_ge t vals.length with h | h
      · exact h
      · rw [List.getElem?_eq_none (by omega)] at hg; cases hg
    show (vals.toArray ++ Array.replicate (nt - vals.toArray.size) Go.undef)[t]? = some x
    rw [Array.getElem?_append_left (by simpa using hlt)]
    simpa using hg
  · simp
    omega
/-- what a function hands back -/
def resF (tmps : Array Value) : ResultVar → Sem Value
  | .tmp t => pure (tmps.getD t Go.undef)
  | .cell p t => asAddr (tmps.getD p Go.undef) >>= fun x => loadVar t x
theorem results_eq (fn : Func) (tmps : Array Value) : results fn tmps = (fn.results.mapM (resF tmps) >>= fun vs => pure (if h : vs.size = 1 then vs[0] else .tuple vs)) := by
  unfold results
  first
    | rfl
    | (congr 1; congr 1; funext x; cases x <;> rfl)
theorem resS_ok (hf : ∀ t v, lk s.F t = some v → ∃ x, v.den ρ β = some x ∧ a.tmps[t]? = some x) (hW : WR cx.P ρ B w0 L β s.H s.n w) : ∀ {l : List ResultVar} {sp : List SP}, resS cx.P s l = some sp → ∃ vs, denP ρ β sp = some vs ∧
    (l.mapM (resF a.tmps)).run cx.P w = .ok vs w
  | [], _, e => by cases e; exact ⟨[], rfl, rfl⟩
  | .tmp t :: r, sp, e => by
    unfold resS at e
    split at e
    · rename_i v l hv hl
      cases e
      obtain ⟨vs, hvs, hr⟩ := resS_ok hf hW hl
      obtain ⟨x, hx, ht⟩ := hf _ _ hv
      refine ⟨x :: vs, ?_, ?_⟩
      · unfold denP
        have hx' : v.den ρ β = some x := hx
        simp only [hx', hvs]
      · rw [List.mapM_cons]
        have : a.tmps.getD t Go.undef = x := by rw [Array.getD_eq_getD_getElem?, ht]; rfl
        simp only [resF, Sem.run_bind, Sem.run_pure, Result.andThen_ok, this, hr]
    · cases e
  | .cell p ty :: r, sp, e => by
    unfold resS at e
    split at e
    · rename_i b off l hv hl
      split at e
      · rename_i v hld
        cases e
        obtain ⟨vs, hvs, hr⟩ := resS_ok hf hW hl
        obtain ⟨x, hx, ht⟩ := hf _ _ hv
        obtain ⟨ad, cap, hb, he⟩ := ptr_ok (ρ := ρ) hx
        obtain ⟨ad', cap', y, hb', hrun, hy⟩ := hW.load hld
        rw [hb] at hb'; cases hb'
        refine ⟨y :: vs, ?_, ?_⟩
        · unfold denP
          simp only [hy, hvs]
        · rw [List.mapM_cons]
          have : a.tmps.getD p Go.undef = .pointer (some ⟨ad, off, none⟩) := by rw [Array.getD_eq_getD_getElem?, ht, he]; rfl
          simp only [resF, Sem.run_bind, Sem.run_pure, Result.andThen_ok, this, asAddr, hrun, hr]
      · cases e
    · cases e
theorem resV_ok (hf : ∀ t v, lk s.F t = some v → ∃ x, v.den ρ β = some x ∧ a.tmps[t]? = some x) (hW : WR cx.P ρ B w0 L β s.H s.n w) {fn : Func} {v : SV} (hv : resV cx.P fn s = some v) : ∃ x, v.den ρ β = some x ∧ (results fn a.tmps).run cx.P w = .ok x w := by
  unfold resV at hv
  have key : ∀ sp, resS cx.P s fn.results.toList = some sp → ∃ vs, denP ρ β sp = some vs ∧ (results fn a.tmps).run cx.P w = .ok (if h : vs.toArray.size = 1 then vs.toArray[0] else .tuple vs.toArray) w := by
    intro sp hsp
    obtain ⟨vs, hvs, hr⟩ := resS_ok hf hW hsp
    refine ⟨vs, hvs, ?_⟩
    rw [results_eq, Sem.run_bind, Array.mapM_eq_mapM_toList]
    simp only [Sem.run_map, hr, Result.andThen_ok, Sem.run_pure]
  split at hv
  · rename_i u hu
    cases hv
    obtain ⟨vs, hvs, hr⟩ := key _ hu
    unfold denP at hvs
    cases hx : u.den ρ β with
    | none => simp [hx] at hvs
    | some x =>
      simp [hx, denP] at hvs
      subst hvs
      exact ⟨x, hx, by simpa using hr⟩
  · rename_i l hne hu
    cases hv
    obtain ⟨vs, hvs, hr⟩ := key _ hu
    refine ⟨.tuple vs.toArray, by simp [SV.den, hvs], ?_⟩
    rw [hr]
    have hlen : vs.length ≠ 1 := by
      intro e
      have : l.length = 1 := by
        have hl : ∀ {l : List SP} {vs : List Value}, denP ρ β l = some vs → vs.length = l.length := by
          intro l
          induction l with
          | nil => intro vs e; cases e; rfl
          | cons x r ih =>
            intro vs e
            unfold denP at e
            cases hx : x.den ρ β with
            | none => simp [hx] at e
            | some v =>
              cases hr : denP ρ β r with
              | none => simp [hx, hr] at e
              | some l => simp only [hx, hr] at e; cases e; simp [ih hr]
        rw [← hl hvs, e]
      obtain ⟨y, rfl⟩ := List.length_eq_one_iff.1 this
      exact hne y rfl
    simp [hlen]
  · cases hv
theorem not_defer {cx : Ctx} {s : St} {pc : PC} {o : Oper} {r : SV × List (Nat × Blk) × Nat} (h : opS cx s pc o = some r) : ∀ c, o.op ≠ .defer c := by
  intro c hc
  unfold opS at h
  simp only [hc] at h
  cases h
/-- what is known of fewer blocks -/
theorem WR.ofDs {H : List (Nat × Blk)} {n : Nat} (h : WR cx.P ρ B w0 L β H n w) {L' : Lst} (hd : ∀ D ∈ L'.ds, D ∈ L.ds) (hl : ∀ p ∈ L'.ls, p ∈ L.ls) : WR cx.P ρ B w0 L' β H n w :=
  ⟨h.below, h.base, h.fresh, h.inj, h.blk, fun D hD => h.ds D (hd D hD), fun p hp => h.ls p (hl p hp)⟩
/-- the marks are taken, the results handed back -/
theorem leaves_ok {fn : Func} {v : SV} (hv : resV cx.P fn s = some v) (hf : ∀ t v, lk s.F t = some v → ∃ x, v.den ρ β = some x ∧ a.tmps[t]? = some x) {R : Ending → World → Prop} {n : Nat} {l0 : List (Nat × Loop)}
    (hR : ∀ w' x, v.den ρ β = some x → WR cx.P ρ B w0 ⟨D0, l0⟩ β s.H s.n w' → R (.returned x) w') : ∀ (ds : List Nat) (L : Lst) (w : World), ds.Nodup → (∀ D ∈ ds, D ∈ L.ds ∧ D ∉ D0) → (∀ D ∈ D0, D ∈ L.ds) → L.ls = l0 → WR cx.P ρ B w0 L β s.H s.n w →
    LeavesInM Fence.wide n cx.P fn a.tmps R (ds.map mark) .returning w
  | [], L, w, _, _, ho, hl, hW => by
    obtain ⟨x, hx, hr⟩ := resV_ok hf hW hv
    exact ⟨x, hr, hR w x hx (hW.ofDs ho (by rw [hl]; exact fun _ h => h))⟩
  | D :: ds, L, w, hnd, hd, ho, hl, hW => by
    obtain ⟨h1, h2⟩ := hd D List.mem_cons_self
    obtain ⟨hB, hh⟩ := hW.ds D h1
    obtain ⟨hnd1, hnd2⟩ := List.nodup_cons.1 hnd
    refine ⟨by simp, .inl ⟨D, _, rfl, run_takeDeferred hh, ?_⟩⟩
    refine leaves_ok hv hf hR ds ⟨L.ds.filter (fun x => x != D), L.ls⟩ _ hnd2 ?_ ?_ hl ?_
    · intro E hE
      obtain ⟨q1, q2⟩ := hd E (List.mem_cons_of_mem _ hE)
      refine ⟨List.mem_filter.2 ⟨q1, ?_⟩, q2⟩
      have : E ≠ D := by rintro rfl; exact hnd1 hE
      simpa using this
    · intro E hE
      refine List.mem_filter.2 ⟨ho E hE, ?_⟩
      have : E ≠ D := by rintro rfl; exact h2 hE
      simpa using this
    · refine hW.putObj hh (by intro _ _ _ e; cases e) hB (fun E hE => ?_) (fun p hp => .inl ⟨hp, ?_⟩)
      · obtain ⟨q1, q2⟩ := List.mem_filter.1 hE
        exact ⟨q1, by simpa using q2⟩
      · intro e
        have := (hW.ls p hp).2
        rw [e, hh] at this
        cases this
end
end Go.Proofs.YtopfaapcekiojaaGreat.Sym

/- The executor's runs of regions and of code are right; a function's contract out of its run. -/
namespace Go.Proofs.YtopfaapcekiojaaGreat.Sym
open Go Go.RowKit Go.Proofs.YtopfaapcekiojaaGreat

section
variable {cx : Ctx} {ρ : Env} {B : Nat} {w0 w : World} {D0 : List Nat} {ys : List (Nat × Rec)} {L : Lst} {β : Lay} {s : St} {a : Act} {o : Oper}

/-- an own function is called -/
theorem run_call {g : FuncId} {fn : Func} {f : Operand} {args : Array Operand} {argTypes : Array TypeId} {ev : Operand → Value} {P : Program} (ho : o.op = .call { callee := .value f, args := args, argTypes := argTypes }) {A1 A2 : Array Value}
    (hf : ev f = .func (.func g) A1 A2) (hg : P.funcs[g]? = some fn) (hn : (fn.name == "runtime.NumGoroutine") = false) {c : Code} (hb : fn.body = some c) (w : World) :
    (execOp ev o).run P w = .ok (.enter g (A1 ++ args.map ev ++ A2)) w := by
  have hn' : fn.name ≠ "runtime.NumGoroutine" := by simpa using hn
  simp [execOp, ho, resolve, Deferred.ofValue, hf, invoke, callFunc, hg, hn', hb]
theorem wpIn_of_run {inr : Bool} {F : Fence} {n : Nat} (hF : FOk inr F) {P : Program} {K : Act → World → Prop} {Q : Exit → Act → World → Prop} (hd : ∀ c, o.op ≠ .defer c) {r : Result Next} (hr : (execOp a.eval o).run P w = r) (h : o.uponIn F n P a K Q r) : o.wpIn F n P a w K Q := by
  refine ⟨fun f _ => hF.fn f, ?_⟩
  rw [Oper.semAt_eq _ _ _ hd, hr]
  exact h
theorem fn_ok {g : FuncId} {x y : List (Nat × Nat)} {u : Value} (h : (SC.fn g x y).den ρ β = some u) : ∃ p q, ptrs β x = some p ∧ ptrs β y = some q ∧ u = .func (.func g) p.toArray q.toArray := by
  simp only [SC.den] at h
  split at h
  · rename_i p q hp hq; exact ⟨p, q, hp, hq, (Option.some.inj h).symm⟩
  · cases h
theorem keepH_lk (n0 : Nat) (seen : List Nat) (b : Nat) (k : Blk) : ∀ H : List (Nat × Blk), lk (keepH n0 seen H) b = some k → lk H b = some k
  | [], h => h
  | (c, k') :: r, h => by
    unfold keepH at h
    rw [lk_cons]
    split at h
    · rw [lk_cons] at h
      split at h
      · rename_i e; rw [if_pos e]; exact h
      · rename_i e; rw [if_neg e]; exact keepH_lk n0 seen b k r h
    · rename_i hk
      have ih := keepH_lk n0 seen b k r h
      by_cases e : b = c
      · exfalso
        subst e
        have : ∀ H : List (Nat × Blk), lk (keepH n0 seen H) b = none := by
          intro H
          induction H with
          | nil => rfl
          | cons x r ih =>
            obtain ⟨d, kd⟩ := x
            unfold keepH
            split
            · rename_i hd
              rw [lk_cons, if_neg (by rintro rfl; rw [hk] at hd; cases hd)]
              exact ih
            · exact ih
        rw [this] at h
        cases h
      · rw [if_neg e]; exact ih
theorem WR.less {H H' : List (Nat × Blk)} {n : Nat} (h : WR cx.P ρ B w0 L β H n w) (hs : ∀ b k, lk H' b = some k → lk H b = some k) : WR cx.P ρ B w0 L β H' n w :=
  ⟨h.below, h.base, h.fresh, fun b c k k' x y hb hc => h.inj b c k k' x y (hs b k hb) (hs c k' hc), fun b k hb => h.blk b k (hs b k hb), h.ds, h.ls⟩
theorem FOk.callsIn {inr : Bool} {F : Fence} (h : FOk inr F) {m n : Nat} {P : Program} {f : FuncId} {args : Array Value} {w : World} {R : Ending → World → Prop} (hc : CallsIn Fence.wide m P f args w R) : CallsIn F n P f args w R := h.calls (callsIn_wide.1 hc)
/-- yield is called -/
theorem run_yielded {l : Nat} {f : Operand} {args : Array Operand} {argTypes : Array TypeId} {ev : Operand → Value} {P : Program} (ho : o.op = .call { callee := .value f, args := args, argTypes := argTypes })
    (hf : ev f = .func (.yield l) #[] #[]) {lo : Loop} (hl : w.heap[l]? = some (.loop lo)) (hs : args.size = lo.params.size) :
    (execOp ev o).run P w = .ok (.round l lo.fn ((lo.params.zip (args.map ev)).foldl (fun tmps (t, a) => tmps.setIfInBounds t a) lo.tmps) lo.assign lo.body) w := by
  have := run_yield (P := P) (args := args.map ev) hl (by simpa using hs)
  simp [execOp, ho, resolve, Deferred.ofValue, hf, invoke, this]
theorem putPs_ok {nt : Nat} : ∀ {ps : List Nat} {args : List SV} {vs : List Value} {F F' : List (Nat × SV)} {tmps : Array Value}, putPs nt F ps args = some F' → denA ρ β args = some vs → tmps.size = nt → (∀ t v, lk F t = some v → ∃ x, v.den ρ β = some x ∧ tmps[t]? = some x) →
    ps.length = vs.length ∧ ((ps.zip vs).foldl (fun (tmps : Array Value) (p : Nat × Value) => tmps.setIfInBounds p.1 p.2) tmps).size = nt ∧ ∀ t v, lk F' t = some v → ∃ x, v.den ρ β = some x ∧ ((ps.zip vs).foldl (fun (tmps : Array Value) (p : Nat × Value) => tmps.setIfInBounds p.1 p.2) tmps)[t]? = some x
  | [], [], vs, F, F', tmps, h, ha, hs, hf => by
    cases h; cases ha; exact ⟨rfl, hs, hf⟩
  | [], _ :: _, vs, F, F', tmps, h, ha, hs, hf => by cases h
  | _ :: _, [], vs, F, F', tmps, h, ha, hs, hf => by cases h
  | p :: ps, v :: r, vs, F, F', tmps, h, ha, hs, hf => by
    unfold putPs at h
    split at h
    · rename_i hp
      have hp : p < nt := Nat.le_of_ble_eq_true hp
      unfold denA at ha
      cases hx : v.den ρ β with
      | none => simp [hx] at ha
      | some x =>
        cases hr : denA ρ β r with
        | none => simp [hx, hr] at ha
        | some l =>
          simp only [hx, hr] at ha
          cases ha
          obtain ⟨h1, h2, h3⟩ := putPs_ok (tmps := tmps.setIfInBounds p x) h hr (by simpa using hs) (by
            intro t u hu
            rw [lk_cons] at hu
            by_cases e : t = p
            · rw [if_pos e] at hu
              cases hu
              subst e
              exact ⟨x, hx, by simp [hs, hp]⟩
            · rw [if_neg e] at hu
              obtain ⟨y, hy, ht⟩ := hf t u hu
              exact ⟨y, hy, by rw [Array.getElem?_setIfInBounds_ne (fun q => e q.symm)]; exact ht⟩)
          exact ⟨by simpa using h1, h2, h3⟩
    · cases h
theorem zip_foldl (ps : Array Tmp) (vs : Array Value) (tmps : Array Value) : (ps.zip vs).foldl (fun tmps (t, a) => tmps.setIfInBounds t a) tmps = (ps.toList.zip vs.toList).foldl (fun (tmps : Array Value) (p : Nat × Value) => tmps.setIfInBounds p.1 p.2) tmps := by
  rw [← Array.foldl_toList, Array.toList_zip]
theorem yieldS_ok {go : Bool → Code → St → Tree} (hgo : ∀ inr, Goes cx ρ ys inr (go inr)) {inr : Bool} {F : Fence} (hF : FOk inr F) {n : Nat} {Q : Exit → Act → World → Prop} {k : St → Tree} {K : Act → World → Prop} (hR : RelS cx ρ ρ.B ρ.w0 D0 ys L s β a w)
    (hk : ∀ s' β' L' a' w', β.le β' → RelS cx ρ ρ.B ρ.w0 D0 ys L' s' β' a' w' → (k s').Holds ρ (Post cx ρ ρ.B ρ.w0 D0 ys β Q) → K a' w')
    {f : Operand} {args : Array Operand} {argTypes : Array TypeId} (ho : o.op = .call { callee := .value f, args := args, argTypes := argTypes }) {b : Nat} (hb : (SC.yld b).den ρ β = some (a.eval f)) {l : List SV} (hl : argsS s args.toList = some l)
    (h : (yieldS ys go s o.dst b l k).Holds ρ (Post cx ρ ρ.B ρ.w0 D0 ys β Q)) : o.wpIn F n cx.P a w K Q := by
  unfold yieldS at h
  split at h
  · rename_i r hr
    split at h
    · rename_i Fr hFr
      obtain ⟨ad, c, lo, st, hβ, hlo, hst, hli⟩ := hR.loops.each b r hr
      have hf : a.eval f = .func (.yield ad) #[] #[] := by
        simp only [SC.den, hβ, Option.map_some] at hb
        exact (Option.some.inj hb).symm
      obtain ⟨_, hheap⟩ := hR.wr.ls _ hlo
      have hargs := argsS_ok hR hl
      obtain ⟨hlen, hsz, hfr⟩ := putPs_ok (tmps := lo.tmps) hFr hargs hli.size hli.frame
      have hsize : args.size = lo.params.size := by
        have e : lo.params.size = lo.params.toList.length := by simp
        rw [e, hli.ps, hlen]
        simp
      have hrun := run_yielded (P := cx.P) (w := w) ho hf hheap hsize
      rw [zip_foldl, hli.ps, hli.assign, hli.body] at hrun
      simp only [Array.toList_map] at hrun
      refine wpIn_of_run hF (by intro c hc; rw [ho] at hc; cases hc) hrun ?_
      refine ⟨fun hdep => (by rw [hF.depth] at hdep; cases hdep), ?_⟩
      refine roundIn_of_wpIn (hF.fn _) ?_
      refine hgo true (F.inRound ad) (n - 1) (hF.round ad) L.ds L r.assign _ β _ w _ (⟨hfr, hsz, hR.wr, hR.pc, hR.loops, ⟨⟨[], rfl, List.nodup_nil, fun D hD => by cases hD⟩, fun D hD => hD⟩⟩ : RelS cx ρ ρ.B ρ.w0 L.ds ys L { F := Fr, H := s.H, n := s.n, pc := s.pc, nt := r.nt, lp := s.lp } β { tmps := _, defers := [] } w) ?_
      refine Tree.holds_mono ?_ _ (Tree.holds_bind _ h)
      intro x s1 hp β1 L1 a1 w1 hle1 hR1
      cases x with
      | exit id => exact hp.elim
      | ret => exact hp.elim
      | normal =>
        unfold bodyS at hp
        simp only [] at hp
        split at hp
        · rename_i hready
          obtain ⟨ad1, c1, lo1, st1, hβ1, hlo1, hst1, hli1⟩ := hR1.loops.each b r hr
          rw [hle1 _ _ hβ] at hβ1
          cases hβ1
          rw [hready] at hst1
          cases hst1
          obtain ⟨_, hheap1⟩ := hR1.wr.ls _ hlo1
          have hbusy : LoopIs ρ β1 r .busy { lo1 with state := .busy } := ⟨hli1.ps, hli1.assign, hli1.body, hli1.size, hli1.frame, rfl, hli1.pend⟩
          refine ⟨_, run_beginRound hheap1 hli1.state, ?_⟩
          refine hgo true (F.inRound ad) (n - 1) (hF.round ad) L.ds _ r.body _ β1 a1 _ _ (⟨hR1.frame, hR1.size, hR1.wr.setLoop hlo1, hR1.pc, hR1.loops.set hr (hle1 _ _ hβ) hbusy, ⟨hR1.marks.own, hR1.marks.old⟩⟩ : RelS cx ρ ρ.B ρ.w0 L.ds ys (L1.set ad { lo1 with state := .busy }) { s1 with lp := setLp s1.lp b .busy } β1 a1 _) ?_
          refine Tree.holds_mono ?_ _ (Tree.holds_bind _ hp)
          intro x2 s2 hp2 β2 L2 a2 w2 hle2 hR2
          obtain ⟨ad2, c2, lo2, st2, hβ2, hlo2, hst2, hli2⟩ := hR2.loops.each b r hr
          rw [hle2 _ _ (hle1 _ _ hβ)] at hβ2
          cases hβ2
          obtain ⟨_, hheap2⟩ := hR2.wr.ls _ hlo2
          have fin : ∀ (jump : Option Code) (v : Bool), jump.isNone = v → (goesOn x2).tru ρ = v → (LS.after x2).pend = jump → (LS.after x2).state = (if jump.isNone then .ready else .done) →
              ∃ u w', (Instr.endRound ad jump).run cx.P w2 = .ok u w' ∧ K (a.put o.dst u) w' := by
            intro jump v hv hg hpd hstt
            refine ⟨_, _, run_endRound jump hheap2, ?_⟩
            unfold endS at hp2
            split at hp2
            · rename_i s' hs'
              have hli3 : LoopIs ρ β2 r (LS.after x2) { lo2 with state := if jump.isNone then .ready else .done, pending := jump } := ⟨hli2.ps, hli2.assign, hli2.body, hli2.size, hli2.frame, hstt.symm, hpd.symm⟩
              have hle := Lay.le_trans hle1 hle2
              refine hk s' β2 _ _ _ hle (putS_gen (s := { s with pc := s2.pc, lp := setLp s2.lp b (LS.after x2) }) (D0 := D0) (ys := ys) hR.frame hR.size hR2.pc hle ?_ (hR2.wr.setLoop hlo2) (hR2.loops.set hr (hle _ _ hβ) hli3) ⟨?_, fun D hD => hR2.marks.old D (hR.marks.old D hD)⟩ hs') hp2
              · show some (Value.bool ((goesOn x2).tru ρ)) = _
                rw [hg, hv]
              · obtain ⟨ds, h1, h2, h3⟩ := hR.marks.own
                exact ⟨ds, h1, h2, fun D hD => ⟨hR2.marks.old D (h3 D hD).1, (h3 D hD).2⟩⟩
            · exact hp2.elim
          cases x2 with
          | normal => exact fin none true rfl rfl rfl rfl
          | ret => exact fin (some .ret) false rfl rfl rfl rfl
          | exit id => exact fin (some (.exit id)) false rfl rfl rfl rfl
        · exact hp.elim
    · exact h.elim
  · exact h.elim
theorem doneS_ok (ok : cx.Ok ρ) {inr : Bool} {F : Fence} (hF : FOk inr F) {n : Nat} {Q : Exit → Act → World → Prop} {k : St → Tree} {K : Act → World → Prop} (hR : RelS cx ρ ρ.B ρ.w0 D0 ys L s β a w)
    (hk : ∀ s' β' L' a' w', β.le β' → RelS cx ρ ρ.B ρ.w0 D0 ys L' s' β' a' w' → (k s').Holds ρ (Post cx ρ ρ.B ρ.w0 D0 ys β Q) → K a' w')
    (h : (doneS cx o k s).Holds ρ (Post cx ρ ρ.B ρ.w0 D0 ys β Q)) : o.wpIn F n cx.P a w K Q := by
  unfold doneS at h
  split at h
  · rename_i v H m hop
    split at h
    · rename_i s' hs'
      obtain ⟨β', w', x, hle, hx, hW, hr, _⟩ := opS_ok ok hR.pc hR.wr (fun y _ => hR.ev y) hop
      have hR' := putS_ok hR hle hx hW hs'
      rcases hr with hr | ⟨hr, rfl⟩
      · exact wpIn_of_run hF (not_defer hop) hr (hk s' β' L _ w' hle hR' h)
      · exact wpIn_of_run hF (not_defer hop) hr (hk s' β' L _ w' hle hR' h)
    · exact h.elim
  · exact h.elim
theorem with_pc' (hR : RelS cx ρ B w0 D0 ys L s β a w) {pc : PC} (h : PcOk ρ pc) : RelS cx ρ B w0 D0 ys L (s.setPc pc) β a w := by
  rw [setPc_eq]
  exact ⟨hR.frame, hR.size, hR.wr, h, hR.loops, hR.marks⟩
theorem chainS_ok (ok : cx.Ok ρ) {inr : Bool} {F : Fence} (hF : FOk inr F) {n : Nat} {Q : Exit → Act → World → Prop} {k : St → Tree} {K : Act → World → Prop} {i : SE}
    (hk : ∀ s' β' L' a' w', β.le β' → RelS cx ρ ρ.B ρ.w0 D0 ys L' s' β' a' w' → (k s').Holds ρ (Post cx ρ ρ.B ρ.w0 D0 ys β Q) → K a' w') : ∀ (m : Nat) (j : Int) {s : St}, RelS cx ρ ρ.B ρ.w0 D0 ys L s β a w → j ≤ i.int ρ → i.int ρ ≤ j + m →
    (chainS cx o k i m j s).Holds ρ (Post cx ρ ρ.B ρ.w0 D0 ys β Q) → o.wpIn F n cx.P a w K Q
  | 0, j, s, hR, h1, h2, h => by
    have e : i.int ρ = j := by omega
    have ht : (SE.bin .eq i (.lit j)).tru ρ = true := by show (i.int ρ == j) = true; simp [e]
    exact doneS_ok ok hF (with_pc' hR (isN_ok hR.pc ht)) hk h
  | m + 1, j, s, hR, h1, h2, h => by
    unfold chainS at h
    obtain ⟨k1, k2⟩ := branch2_ok (fun ht => isN_ok hR.pc ht) (fun ht => isN_ok hR.pc ht) h
    cases ht : (SE.bin .eq i (.lit j)).tru ρ
    · have hne : (i.int ρ == j) = false := ht
      have hne : i.int ρ ≠ j := by simpa using hne
      exact chainS_ok ok hF hk m (j + 1) (with_pc' hR (isN_ok hR.pc ht)) (by omega) (by omega) (k2 ht)
    · exact doneS_ok ok hF (with_pc' hR (isN_ok hR.pc ht)) hk (k1 ht)
theorem splitS_ok (ok : cx.Ok ρ) {inr : Bool} {F : Fence} (hF : FOk inr F) {n : Nat} {Q : Exit → Act → World → Prop} {k : St → Tree} {K : Act → World → Prop} (hR : RelS cx ρ ρ.B ρ.w0 D0 ys L s β a w)
    (hk : ∀ s' β' L' a' w', β.le β' → RelS cx ρ ρ.B ρ.w0 D0 ys L' s' β' a' w' → (k s').Holds ρ (Post cx ρ ρ.B ρ.w0 D0 ys β Q) → K a' w')
    (h : (splitS cx o k s).Holds ρ (Post cx ρ ρ.B ρ.w0 D0 ys β Q)) : o.wpIn F n cx.P a w K Q := by
  unfold splitS at h
  split at h
  · split at h
    · rename_i lo hi hr
      obtain ⟨h1, h2⟩ := bnd_ok hR.pc hr
      split at h
      · rename_i m hm
        split at h
        · have hm : hi - lo = (m : Int) := hm
          exact chainS_ok ok hF hk m lo hR h1 (by omega) h
        · exact h.elim
      · exact h.elim
    · exact h.elim
  · exact h.elim
/-! ### ends brought together -/
section
variable {c : SE}
theorem mergeC_ok {x y z : SC} (h : mergeC c x y = some z) {t : Bool} (ht : c.tru ρ = t) {u : Value} (hu : (if t then x else y).den ρ β = some u) : z.den ρ β = some u := by
  unfold mergeC at h
  split at h
  · rename_i hs
    cases h
    have := SC.same_eq hs
    subst this
    cases t <;> exact hu
  · split at h
    · rename_i k a k' b _
      split at h
      · rename_i hk
        have := kSame_eq hk
        subst this
        cases h
        show some (Value.int k ((mkIte c a b).int ρ)) = some u
        rw [mkIte_ok, ht]
        cases t <;> exact hu
      · cases h
    · rename_i a b _
      cases h
      show some (Value.bool ((mkBite c a b).tru ρ)) = some u
      rw [mkBite_ok, ht]
      cases t <;> exact hu
    · cases h
theorem mergeL_ok {t : Bool} (ht : c.tru ρ = t) : ∀ {x y z : List SC}, mergeL c x y = some z → ∀ {u : List Value}, denL ρ β (if t then x else y) = some u → denL ρ β z = some u
  | [], [], z, h, u, hu => by cases h; cases t <;> exact hu
  | x :: r, y :: s, z, h, u, hu => by
    unfold mergeL at h
    split at h
    · rename_i z' l hz hl
      cases h
      have key : ∀ {x' : SC} {r' : List SC}, (if t then x :: r else y :: s) = x' :: r' → (if t then x else y) = x' → (if t then r else s) = r' → denL ρ β (z' :: l) = some u := by
        intro x' r' e1 e2 e3
        rw [e1] at hu
        unfold denL at hu ⊢
        cases hx : x'.den ρ β with
        | none => simp [hx] at hu
        | some v =>
          cases hr : denL ρ β r' with
          | none => simp [hx, hr] at hu
          | some l' =>
            simp only [hx, hr] at hu
            rw [mergeC_ok hz ht (by rw [e2]; exact hx), mergeL_ok ht hl (by rw [e3]; exact hr)]
            exact hu
      cases t
      · exact key rfl rfl rfl
      · exact key rfl rfl rfl
    · cases h
  | [], _ :: _, _, h, _, _ => by cases h
  | _ :: _, [], _, h, _, _ => by cases h
theorem mergeP_ok {x y z : SP} (h : mergeP c x y = some z) {t : Bool} (ht : c.tru ρ = t) {u : Value} (hu : (if t then x else y).den ρ β = some u) : z.den ρ β = some u := by
  unfold mergeP at h
  split at h
  · rename_i a b
    split at h
    · rename_i z' hz; cases h; exact mergeC_ok hz ht (by cases t <;> exact hu)
    · cases h
  · rename_i l m
    split at h
    · rename_i z' hz
      cases h
      have hu : (denL ρ β (if t then l else m)).map (fun x => Value.agg x.toArray) = some u := by cases t <;> exact hu
      cases hd : denL ρ β (if t then l else m) with
      | none => rw [hd] at hu; cases hu
      | some us => rw [hd] at hu; show (denL ρ β z').map _ = _; rw [mergeL_ok ht hz hd]; exact hu
    · cases h
  · cases h
theorem mergePs_ok {t : Bool} (ht : c.tru ρ = t) : ∀ {x y z : List SP}, mergePs c x y = some z → ∀ {u : List Value}, denP ρ β (if t then x else y) = some u → denP ρ β z = some u
  | [], [], z, h, u, hu => by cases h; cases t <;> exact hu
  | x :: r, y :: s, z, h, u, hu => by
    unfold mergePs at h
    split at h
    · rename_i z' l hz hl
      cases h
      have key : ∀ {x' : SP} {r' : List SP}, (if t then x :: r else y :: s) = x' :: r' → (if t then x else y) = x' → (if t then r else s) = r' → denP ρ β (z' :: l) = some u := by
        intro x' r' e1 e2 e3
        rw [e1] at hu
        unfold denP at hu ⊢
        cases hx : x'.den ρ β with
        | none => simp [hx] at hu
        | some v =>
          cases hr : denP ρ β r' with
          | none => simp [hx, hr] at hu
          | some l' =>
            simp only [hx, hr] at hu
            rw [mergeP_ok hz ht (by rw [e2]; exact hx), mergePs_ok ht hl (by rw [e3]; exact hr)]
            exact hu
      cases t
      · exact key rfl rfl rfl
      · exact key rfl rfl rfl
    · cases h
  | [], _ :: _, _, h, _, _ => by cases h
  | _ :: _, [], _, h, _, _ => by cases h
theorem mergeV_ok {x y z : SV} (h : mergeV c x y = some z) {t : Bool} (ht : c.tru ρ = t) {u : Value} (hu : (if t then x else y).den ρ β = some u) : z.den ρ β = some u := by
  unfold mergeV at h
  split at h
  · rename_i a b
    split at h
    · rename_i z' hz; cases h; exact mergeP_ok hz ht (by cases t <;> exact hu)
    · cases h
  · rename_i l m
    split at h
    · rename_i z' hz
      cases h
      have hu : (denP ρ β (if t then l else m)).map (fun x => Value.tuple x.toArray) = some u := by cases t <;> exact hu
      cases hd : denP ρ β (if t then l else m) with
      | none => rw [hd] at hu; cases hu
      | some us => rw [hd] at hu; show (denP ρ β z').map _ = _; rw [mergePs_ok ht hz hd]; exact hu
    · cases h
  · cases h
/-- what holds of the one blocks holds of the others -/
def HLe (ρ : Env) (H H' : List (Nat × Blk)) : Prop := ∀ b k', lk H' b = some k' → ∃ k, lk H b = some k ∧ k'.ty = k.ty ∧ k'.row = k.row ∧ ∀ β cs, denL ρ β k.cells = some cs → denL ρ β k'.cells = some cs
theorem HLe.refl (H : List (Nat × Blk)) : HLe ρ H H := fun _ k h => ⟨k, h, rfl, rfl, fun _ _ h => h⟩
theorem HLe.trans {H1 H2 H3 : List (Nat × Blk)} (h : HLe ρ H1 H2) (k : HLe ρ H2 H3) : HLe ρ H1 H3 := fun b k3 h3 => by
  obtain ⟨k2, h2, a1, a2, a3⟩ := k b k3 h3
  obtain ⟨k1, h1, b1, b2, b3⟩ := h b k2 h2
  exact ⟨k1, h1, a1.trans b1, a2.trans b2, fun β cs h => a3 β cs (b3 β cs h)⟩
theorem WR.merged {P : Program} {B : Nat} {w0 w : World} {L : Lst} {β : Lay} {H H' : List (Nat × Blk)} {n n' : Nat} (h : WR P ρ B w0 L β H n w) (hl : HLe ρ H H') (hn : n ≤ n') : WR P ρ B w0 L β H' n' w := by
  refine ⟨h.below, h.base, fun b hb => h.fresh b (by omega), fun b c k k' x y hb hc hx hy e => ?_, fun b k hb => ?_, h.ds, h.ls⟩
  · obtain ⟨k1, h1, _⟩ := hl b k hb
    obtain ⟨k2, h2, _⟩ := hl c k' hc
    exact h.inj b c k1 k2 x y h1 h2 hx hy e
  · obtain ⟨k1, h1, e1, e2, e3⟩ := hl b k hb
    obtain ⟨ad, cap, cs, cur, q1, q2, q3, q4, q5, q6, q7⟩ := h.blk b k1 h1
    refine ⟨ad, cap, cs, cur, q1, e3 _ _ q2, q3, by rw [e1]; exact q4, q5, q6, ?_⟩
    unfold RowOk at q7 ⊢
    rw [e2, e1]
    exact q7
theorem mergeB_ok {k k' z : Blk} (h : mergeB c k k' = some z) {t : Bool} (ht : c.tru ρ = t) : z.ty = (if t then k else k').ty ∧ z.row = (if t then k else k').row ∧ ∀ β cs, denL ρ β (if t then k else k').cells = some cs → denL ρ β z.cells = some cs := by
  unfold mergeB at h
  split at h
  · rename_i hb
    simp only [Bool.and_eq_true] at hb
    have e1 := Nat.eq_of_beq_eq_true hb.1
    have e2 : k.row = k'.row := by
      have := hb.2
      cases h1 : k.row <;> cases h2 : k'.row <;> rw [h1, h2] at this <;> first | rfl | (cases this; done) | (simp only [oSame] at this; rw [Nat.eq_of_beq_eq_true this])
    split at h
    · rename_i l hl
      cases h
      refine ⟨by cases t <;> first | exact e1 | rfl, by cases t <;> first | exact e2 | rfl, fun β cs hcs => mergeL_ok ht hl (by cases t <;> exact hcs)⟩
    · cases h
  · cases h
theorem mergeH_ok {H' : List (Nat × Blk)} {t : Bool} (ht : c.tru ρ = t) : ∀ {H z : List (Nat × Blk)}, mergeH c H' H = some z → HLe ρ (if t then H else H') z
  | [], z, h => by cases h; intro b k h; cases h
  | (b0, k0) :: r, z, h => by
    have put : ∀ {y : Blk} {k2 : Blk} {l : List (Nat × Blk)}, lk H' b0 = some k2 → mergeH c H' r = some l → (y.ty = (if t then k0 else k2).ty ∧ y.row = (if t then k0 else k2).row ∧ ∀ β cs, denL ρ β (if t then k0 else k2).cells = some cs → denL ρ β y.cells = some cs) →
        HLe ρ (if t then (b0, k0) :: r else H') ((b0, y) :: l) := by
      intro y k2 l hk2 hl hy b k' hq
      have ih := mergeH_ok (H' := H') ht hl
      rw [lk_cons] at hq
      split at hq
      · rename_i e
        subst e
        cases hq
        cases t
        · exact ⟨k2, hk2, hy⟩
        · exact ⟨k0, by show lk ((b, k0) :: r) b = some k0; rw [lk_cons, if_pos rfl], hy⟩
      · rename_i hne
        obtain ⟨k, hk, e⟩ := ih b k' hq
        refine ⟨k, ?_, e⟩
        cases t
        · exact hk
        · show lk ((b0, k0) :: r) b = some k
          rw [lk_cons, if_neg hne]; exact hk
    unfold mergeH at h
    split at h
    · rename_i k2 hk2
      split at h
      · rename_i hs
        have := Blk.same_eq hs
        subst this
        split at h
        · rename_i l hl
          cases h
          exact put hk2 hl (by cases t <;> exact ⟨rfl, rfl, fun _ _ h => h⟩)
        · cases h
      · split at h
        · rename_i y l hy hl
          cases h
          exact put hk2 hl (mergeB_ok hy ht)
        · cases h
    · cases h
end
/-- of a callee's end: the value, the blocks, as they are brought together -/
def EndOk (cx : Ctx) (ρ : Env) (fn : Func) (n0 : Nat) (e : End) (x : SX) (s : St) : Prop :=
  (∀ id, x ≠ .exit id) ∧ ∃ v, resV cx.P fn s = some v ∧ (∀ β u, v.den ρ β = some u → e.v.den ρ β = some u) ∧ HLe ρ (gcH n0 v s.H) e.H ∧ s.n ≤ e.n ∧ s.lp = e.lp
theorem mergeE_ok {c : SE} {x y z : End} (h : mergeE c x y = some z) {t : Bool} (ht : c.tru ρ = t) {fn : Func} {n0 : Nat} {xx : SX} {s : St} (he : EndOk cx ρ fn n0 (if t then x else y) xx s) : EndOk cx ρ fn n0 z xx s := by
  obtain ⟨h1, v, h2, h3, h4, h5, h6⟩ := he
  unfold mergeE at h
  split at h
  · rename_i v' hv
    split at h
    · rename_i hl
      have hl := lSame_eq lpSame_eq hl
      split at h
      · rename_i H hH
        cases h
        refine ⟨h1, v, h2, fun β u hu => ?_, ?_, ?_, ?_⟩
        · have := h3 β u hu
          exact mergeV_ok hv ht (by cases t <;> exact this)
        · have := mergeH_ok ht hH
          cases t
          · exact h4.trans this
          · exact h4.trans this
        · show s.n ≤ Nat.max x.n y.n
          cases t
          · exact Nat.le_trans h5 (Nat.le_max_right _ _)
          · exact Nat.le_trans h5 (Nat.le_max_left _ _)
        · cases t
          · exact h6.trans hl.symm
          · exact h6
      · cases h
    · cases h
  · cases h
theorem endsT_ok {fn : Func} {n0 : Nat} : ∀ {t : Tree} {e : End}, endsT cx.P fn n0 t = some e → t.Holds ρ (EndOk cx ρ fn n0 e)
  | .leaf x s, e, h => by
    cases x with
    | exit id => cases h
    | normal =>
      unfold endsT at h
      split at h
      · rename_i v hv; cases h; exact ⟨(by intro id q; cases q), v, hv, fun _ _ h => h, HLe.refl _, Nat.le_refl _, rfl⟩
      · cases h
    | ret =>
      unfold endsT at h
      split at h
      · rename_i v hv; cases h; exact ⟨(by intro id q; cases q), v, hv, fun _ _ h => h, HLe.refl _, Nat.le_refl _, rfl⟩
      · cases h
  | .br c a b, e, h => by
    unfold endsT at h
    split at h
    · rename_i x hx
      split at h
      · rename_i y hy
        have ha := endsT_ok hx
        have hb := endsT_ok hy
        show if c.tru ρ then a.Holds ρ _ else b.Holds ρ _
        cases ht : c.tru ρ
        · exact Tree.holds_mono (fun xx s he => mergeE_ok h ht (by exact he)) _ hb
        · exact Tree.holds_mono (fun xx s he => mergeE_ok h ht (by exact he)) _ ha
      · cases h
    · cases h
  | .fail _, e, h => by cases h
  | .all _ _, e, h => by cases h
theorem oneS_ok (ok : cx.Ok ρ) (hsums : SumsOk cx ρ) {go : Bool → Code → St → Tree} (hgo : ∀ inr, Goes cx ρ ys inr (go inr)) {inr : Bool} {F : Fence} (hF : FOk inr F) {n : Nat} {Q : Exit → Act → World → Prop} {k : St → Tree} {K : Act → World → Prop} (hR : RelS cx ρ ρ.B ρ.w0 D0 ys L s β a w)
    (hk : ∀ s' β' L' a' w', β.le β' → RelS cx ρ ρ.B ρ.w0 D0 ys L' s' β' a' w' → (k s').Holds ρ (Post cx ρ ρ.B ρ.w0 D0 ys β Q) → K a' w')
    (h : (oneS cx ys go o k s).Holds ρ (Post cx ρ ρ.B ρ.w0 D0 ys β Q)) : o.wpIn F n cx.P a w K Q := by
  unfold oneS at h
  split at h
  · -- a call
    rename_i hcall
    split at h
    · rename_i g x y xs hcal
      split at h
      · rename_i l hl
        unfold calleeS at hcal
        split at hcal
        · rename_i f args argTypes hop
          split at hcal
          · rename_i g' x' y' hfn
            cases hcal
            obtain ⟨p, q, hp, hq, hfv⟩ := fn_ok (opc_ok hR.pc (hR.ev f) hfn)
            unfold callS at h
            split at h
            · rename_i fn hfun
              split at h
              · exact h.elim
              · rename_i hname
                split at h
                · rename_i c hbody
                  have hargs : denA ρ β (ptrSV x ++ (l ++ ptrSV y)) = some (p ++ (args.toList.map a.eval ++ q)) := denA_append (ptrSV_ok hp) (denA_append (argsS_ok hR hl) (ptrSV_ok hq))
                  have hA : p.toArray ++ args.map a.eval ++ q.toArray = (p ++ (args.toList.map a.eval ++ q)).toArray := by apply Array.ext'; simp
                  have hrun := run_call (w := w) hop hfv hfun hname hbody
                  rw [hA] at hrun
                  refine wpIn_of_run hF (by intro c hc; rw [hop] at hc; cases hc) hrun ?_
                  refine ⟨fun hdep => (by rw [hF.depth] at hdep; cases hdep), ?_⟩
                  split at h
                  · rename_i v hv
                    split at h
                    · rename_i s' hs'
                      unfold sumS at hv
                      split at hv
                      · rename_i sm hsum
                        obtain ⟨u, hu, hc⟩ := hsums _ _ hsum _ _ _ _ hv hR.pc L β _ w _ hR.wr (by rw [knownA_ok hR.pc]; exact hargs)
                        refine hF.calls (hc.mono ?_)
                        rintro e w' ⟨rfl, hb⟩
                        exact hk s' β L _ w' (Lay.le_refl _) (putS_ok hR (Lay.le_refl _) hu (hR.wr.after hb) hs') h
                      · cases hv
                    · exact h.elim
                  · split at h
                    · rename_i hle
                      have hle := Nat.le_of_ble_eq_true hle
                      have hr0 := enter_ok hR.wr hR.pc hR.loops hargs hle
                      refine hF.callsIn (m := 0) (callsIn_of_wp_marks hfun hbody trivial ?_)
                      refine hgo false Fence.wide 0 rfl L.ds L c _ β _ w _ hr0 ?_
                      have plain : (Tree.bind (retS cx.P fn s o.dst k) (go false c { F := slots 0 (ptrSV x ++ (l ++ ptrSV y)), H := s.H, n := s.n, pc := s.pc, nt := fn.ntmps, lp := s.lp })).Holds ρ (Post cx ρ ρ.B ρ.w0 D0 ys β Q) →
                          (go false c { F := slots 0 (ptrSV x ++ (l ++ ptrSV y)), H := s.H, n := s.n, pc := s.pc, nt := fn.ntmps, lp := s.lp }).Holds ρ (Post cx ρ ρ.B ρ.w0 L.ds ys β fun e a' w' => bodyPostM Fence.wide 0 cx.P fn (fun
                            | .returned v, w'' => K (a.put o.dst v) w''
                            | .panicked chain, w'' => Q (.panic chain) a w''
                            | .outgrown, _ => LetsOut Q) e a' w') := by
                        intro h
                        refine Tree.holds_mono ?_ _ (Tree.holds_bind _ h)
                        intro xx s1 hret β1 L1 a1 w1 hle1 hr1
                        have hnr : ∀ v s2, resV cx.P fn s1 = some v → putS { s with pc := s1.pc, lp := s1.lp } o.dst v (gcH s.n v s1.H) s1.n = some s2 → (k s2).Holds ρ (Post cx ρ ρ.B ρ.w0 D0 ys β Q) →
                            LeavesInM Fence.wide 0 cx.P fn a1.tmps (fun
                              | .returned v, w'' => K (a.put o.dst v) w''
                              | .panicked chain, w'' => Q (.panic chain) a w''
                              | .outgrown, _ => LetsOut Q) a1.defers .returning w1 := by
                          intro v s2 hv hs2 hk2
                          obtain ⟨ds, h1, h2, h3⟩ := hr1.marks.own
                          rw [h1]
                          refine leaves_ok hv hr1.frame (fun w3 xv hxv hW3 => ?_) ds L1 w1 h2 h3 hr1.marks.old rfl hr1.wr
                          refine hk s2 β1 ⟨L.ds, L1.ls⟩ _ w3 hle1 (putS_gen (s := { s with pc := s1.pc, lp := s1.lp }) (D0 := D0) (ys := ys) hR.frame hR.size hr1.pc hle1 hxv (hW3.less fun b k h => keepH_lk _ _ b k _ h) (hr1.loops.ls rfl) ⟨?_, hR.marks.old⟩ hs2) hk2
                          exact hR.marks.own
                        unfold retS at hret
                        cases xx with
                        | exit id => exact hret.elim
                        | normal =>
                          simp only [] at hret
                          split at hret
                          · rename_i v hv
                            split at hret
                            · rename_i s2 hs2
                              exact hnr v s2 hv hs2 hret
                            · exact hret.elim
                          · exact hret.elim
                        | ret =>
                          simp only [] at hret
                          split at hret
                          · rename_i v hv
                            split at hret
                            · rename_i s2 hs2
                              exact hnr v s2 hv hs2 hret
                            · exact hret.elim
                          · exact hret.elim
                      have merged : ∀ e s2, endsT cx.P fn s.n (go false c { F := slots 0 (ptrSV x ++ (l ++ ptrSV y)), H := s.H, n := s.n, pc := s.pc, nt := fn.ntmps, lp := s.lp }) = some e → putS { s with lp := e.lp } o.dst e.v e.H e.n = some s2 → (k s2).Holds ρ (Post cx ρ ρ.B ρ.w0 D0 ys β Q) →
                          (go false c { F := slots 0 (ptrSV x ++ (l ++ ptrSV y)), H := s.H, n := s.n, pc := s.pc, nt := fn.ntmps, lp := s.lp }).Holds ρ (Post cx ρ ρ.B ρ.w0 L.ds ys β fun e a' w' => bodyPostM Fence.wide 0 cx.P fn (fun
                            | .returned v, w'' => K (a.put o.dst v) w''
                            | .panicked chain, w'' => Q (.panic chain) a w''
                            | .outgrown, _ => LetsOut Q) e a' w') := by
                        intro e s2 he hs2 hk2
                        refine Tree.holds_mono ?_ _ (endsT_ok (ρ := ρ) he)
                        intro xx s1 hend β1 L1 a1 w1 hle1 hr1
                        obtain ⟨g1, v, hv, g2, g3, g4, g5⟩ := hend
                        have hnr : LeavesInM Fence.wide 0 cx.P fn a1.tmps (fun
                              | .returned v, w'' => K (a.put o.dst v) w''
                              | .panicked chain, w'' => Q (.panic chain) a w''
                              | .outgrown, _ => LetsOut Q) a1.defers .returning w1 := by
                          obtain ⟨ds, h1, h2, h3⟩ := hr1.marks.own
                          rw [h1]
                          refine leaves_ok hv hr1.frame (fun w3 xv hxv hW3 => ?_) ds L1 w1 h2 h3 hr1.marks.old rfl hr1.wr
                          refine hk s2 β1 ⟨L.ds, L1.ls⟩ _ w3 hle1 (putS_gen (s := { s with lp := e.lp }) (D0 := D0) (ys := ys) hR.frame hR.size hR.pc hle1 (g2 _ _ hxv) (WR.merged (hW3.less fun b k h => keepH_lk _ _ b k _ h) g3 g4) (by have := hr1.loops.ls (L' := ⟨L.ds, L1.ls⟩) rfl; rw [g5] at this; exact this) ⟨?_, hR.marks.old⟩ hs2) hk2
                          exact hR.marks.own
                        cases xx with
                        | exit id => exact absurd rfl (g1 id)
                        | normal => exact hnr
                        | ret => exact hnr
                      unfold callT at h
                      split at h
                      · exact plain h
                      · split at h
                        · rename_i c' ta tb htree
                          split at h
                          · rename_i e he
                            split at h
                            · rename_i s2 hs2
                              rw [← htree] at he
                              exact merged e s2 he hs2 h
                            · exact h.elim
                          · rw [← htree] at h; exact plain h
                        · exact plain h
                    · exact h.elim
                · exact h.elim
            · exact h.elim
          · cases hcal
        · cases hcal
      · exact h.elim
    · split at h
      · rename_i b xs hy
        split at h
        · rename_i l hl
          unfold yldS at hy
          split at hy
          · rename_i f args argTypes hop
            split at hy
            · rename_i b' hfn
              cases hy
              exact yieldS_ok hgo hF hR hk hop (opc_ok hR.pc (hR.ev f) hfn) hl h
            · cases hy
          · cases hy
        · exact h.elim
      · exact h.elim
  · split at h
    · rename_i v H m hop
      split at h
      · rename_i s' hs'
        obtain ⟨β', w', x, hle, hx, hW, hr, _⟩ := opS_ok ok hR.pc hR.wr (fun y _ => hR.ev y) hop
        have hR' := putS_ok hR hle hx hW hs'
        rcases hr with hr | ⟨hr, rfl⟩
        · exact wpIn_of_run hF (not_defer hop) hr (hk s' β' L _ w' hle hR' h)
        · exact wpIn_of_run hF (not_defer hop) hr (hk s' β' L _ w' hle hR' h)
      · exact h.elim
    · exact splitS_ok ok hF hR hk h
theorem guardS_ok (hR : RelS cx ρ B w0 D0 ys L s β a w) {ops : Array Oper} {e : SE} (h : guardS s ops o.guard = some e) : Region.wanted o (yielded ops a.tmps) = e.tru ρ := by
  unfold guardS at h
  split at h
  · rename_i hg; cases h; simp [Region.wanted, hg]; rfl
  · rename_i j want hg
    split at h
    · rename_i d hd
      split at h
      · rename_i e' he
        obtain ⟨x, hx, ht⟩ := hR.frame _ _ he
        have := bool_ok (β := β) hx
        subst this
        simp only [Region.wanted, hg, yielded, hd, Option.bind_some, ht]
        cases h
        cases want
        · simp only []
          rw [mkNot_ok]
          cases e'.tru ρ <;> rfl
        · simp only []
          cases e'.tru ρ <;> rfl
      · rename_i c e' he
        obtain ⟨x, hx, ht⟩ := hR.frame _ _ he
        simp only [SV.den] at hx
        cases h
        rw [mkAnd_ok]
        simp only [Region.wanted, hg, yielded, hd, Option.bind_some, ht]
        cases hc : c.tru ρ
        · rw [hc] at hx
          simp only [Bool.false_eq_true, if_false] at hx
          cases hx
          rfl
        · rw [hc] at hx
          simp only [if_true] at hx
          have := bool_ok (β := β) hx
          subst this
          cases want
          · simp only []
            rw [mkNot_ok]
            cases e'.tru ρ <;> rfl
          · simp only []
            cases e'.tru ρ <;> rfl
      · rename_i he
        obtain ⟨x, hx, ht⟩ := hR.frame _ _ he
        cases hx
        cases h
        simp only [Region.wanted, hg, yielded, hd, Option.bind_some, ht]
        rfl
      · cases h
    · cases h
theorem trialS_ok (ok : cx.Ok ρ) (hR : RelS cx ρ B w0 D0 ys L s β a w) {e : SE} {s' : St} (h : trialS cx e o s = some s') :
    (e.tru ρ = true → ∃ x, RelS cx ρ B w0 D0 ys L s' β (a.put o.dst x) w ∧ (execOp a.eval o).run cx.P w = .ok (.value x) w) ∧
    (e.tru ρ = false → RelS cx ρ B w0 D0 ys L s' β (a.put o.dst Go.undef) w) := by
  unfold trialS at h
  have hput : ¬ Lays o ∧ ∃ v H n, opS cx s (assume s.pc e true) o = some (.p v, H, n) ∧ putS s o.dst (.gd e v) s.H s.n = some s' := by
    split at h
    · cases h
    · rename_i hl
      split at h
      · rename_i v H n hop
        refine ⟨?_, v, H, n, hop, h⟩
        unfold Lays
        intro e
        rw [e] at hl
        cases hl
      · cases h
  obtain ⟨hnl, v, H, n, hop, hput⟩ := hput
  refine ⟨fun ht => ?_, fun hf => putS_ok hR (Lay.le_refl _) (by simp [SV.den, hf]) hR.wr hput⟩
  obtain ⟨β', w', x, hle, hx, hW, _, hl⟩ := opS_ok ok (assume_ok hR.pc ht) hR.wr (fun y _ => hR.ev y) hop
  rcases hl with ⟨hr, rfl, rfl⟩ | hl
  · exact ⟨x, putS_ok hR (Lay.le_refl _) (by simp only [SV.den, ht, if_true]; exact hx) hR.wr hput, hr⟩
  · exact absurd hl hnl
theorem trial_not {e : SE} {s s' : St} (h : trialS cx e o s = some s') : ∀ c, o.op ≠ .defer c := by
  intro c hc
  unfold trialS at h
  split at h
  · cases h
  · split at h
    · rename_i hop; exact absurd hc (not_defer hop c)
    · cases h
theorem skipS_ok {K : Act → World → Prop} {T : Tree → Prop} {k : St → Tree} (hR : RelS cx ρ B w0 D0 ys L s β a w) (hT : ∀ n, ¬ T (.fail n)) 
    (hk : ∀ s', RelS cx ρ B w0 D0 ys L s' β (a.put o.dst Go.undef) w → T (k s') → K (a.put o.dst Go.undef) w)
    (h : T (skipS o k s)) : K (a.put o.dst Go.undef) w := by
  unfold skipS at h
  split at h
  · rename_i s' hs'; exact hk s' (putS_ok hR (Lay.le_refl _) rfl hR.wr hs') h
  · exact absurd h (hT _)
/-- one operation, wanted or not -/
theorem stepS_ok (ok : cx.Ok ρ) (hsums : SumsOk cx ρ) {go : Bool → Code → St → Tree} (hgo : ∀ inr, Goes cx ρ ys inr (go inr)) {inr : Bool} {F : Fence} (hF : FOk inr F) {n : Nat} {Q : Exit → Act → World → Prop} {k : St → Tree} {K : Act → World → Prop} {ops : Array Oper} (hR : RelS cx ρ ρ.B ρ.w0 D0 ys L s β a w)
    (hk : ∀ s' β' L' a' w', β.le β' → RelS cx ρ ρ.B ρ.w0 D0 ys L' s' β' a' w' → (k s').Holds ρ (Post cx ρ ρ.B ρ.w0 D0 ys β Q) → K a' w')
    (h : (stepS cx ys go ops o k s).Holds ρ (Post cx ρ ρ.B ρ.w0 D0 ys β Q)) :
    if Region.wanted o (yielded ops a.tmps) then o.wpIn F n cx.P a w K Q else (∀ f, o.about cx.P w a.eval = some f → F.fn f) ∧ K (a.put o.dst Go.undef) w := by
  unfold stepS at h
  have hskip : ∀ s2, RelS cx ρ ρ.B ρ.w0 D0 ys L s2 β a w → (skipS o k s2).Holds ρ (Post cx ρ ρ.B ρ.w0 D0 ys β Q) → K (a.put o.dst Go.undef) w := fun s2 h2 hh =>
    skipS_ok (T := fun t => t.Holds ρ (Post cx ρ ρ.B ρ.w0 D0 ys β Q)) h2 (fun _ h => h) (fun s' hs' hh => hk s' β L _ w (Lay.le_refl _) hs' hh) hh
  split at h
  · exact h.elim
  · rename_i e he
    rw [guardS_ok hR he]
    split at h
    · rename_i hd
      rw [if_pos (decT_ok hR.pc hd)]
      exact oneS_ok ok hsums hgo hF hR hk h
    · rename_i hd
      rw [if_neg (by rw [decT_ok hR.pc hd]; simp)]
      exact ⟨fun f _ => hF.fn f, hskip s hR h⟩
    · split at h
      · rename_i s' hs'
        obtain ⟨h1, h2⟩ := trialS_ok ok hR hs'
        cases ht : e.tru ρ
        · rw [if_neg (by simp)]
          exact ⟨fun f _ => hF.fn f, hk s' β L _ w (Lay.le_refl _) (h2 ht) h⟩
        · rw [if_pos rfl]
          obtain ⟨x, hx, hr⟩ := h1 ht
          exact wpIn_of_run hF (trial_not hs') hr (hk s' β L _ w (Lay.le_refl _) hx h)
      · obtain ⟨h1, h2⟩ := branch_ok hR.pc h
        cases ht : e.tru ρ
        · rw [if_neg (by simp)]
          exact ⟨fun f _ => hF.fn f, hskip _ (with_pc' hR (assume_ok hR.pc ht)) (h2 ht)⟩
        · rw [if_pos rfl]
          exact oneS_ok ok hsums hgo hF (with_pc' hR (assume_ok hR.pc ht)) hk (h1 ht)
theorem opsS_ok (ok : cx.Ok ρ) (hsums : SumsOk cx ρ) {go : Bool → Code → St → Tree} (hgo : ∀ inr, Goes cx ρ ys inr (go inr)) {inr : Bool} {F : Fence} (hF : FOk inr F) {n : Nat} {Q : Exit → Act → World → Prop} {ops : Array Oper} : ∀ (r : List Oper) (l : List Nat), l.map (fun i => ops[i]?) = r.map some → ∀ {L : Lst} {s : St} {β : Lay} {a : Act} {w : World},
    RelS cx ρ ρ.B ρ.w0 D0 ys L s β a w → (opsS cx ys go ops r s).Holds ρ (Post cx ρ ρ.B ρ.w0 D0 ys β Q) → wpOpsIn F n cx.P ops Q l a w
  | [], l, hl, L, s, β, a, w, hR, h => by
    cases l with
    | nil => exact h β L a w (Lay.le_refl _) hR
    | cons i l => cases hl
  | o :: r, l, hl, L, s, β, a, w, hR, h => by
    cases l with
    | nil => cases hl
    | cons i l =>
      simp only [List.map_cons, List.cons.injEq] at hl
      simp only [wpOpsIn, hl.1]
      refine stepS_ok ok hsums hgo hF hR (K := wpOpsIn F n cx.P ops Q l) (k := opsS cx ys go ops r) ?_ h
      intro s' β' L' a' w' hle hR' hh
      exact opsS_ok ok hsums hgo hF r l hl.2 hR' (Tree.holds_mono (fun x s hp => Post.le hle hp) _ hh)
end
end Go.Proofs.YtopfaapcekiojaaGreat.Sym
