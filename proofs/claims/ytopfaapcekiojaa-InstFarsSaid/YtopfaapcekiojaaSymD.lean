/- The blocks of the executor in the world: a new block, a load, a store, what a call leaves. -/
import Derived.Test.YtopfaapcekiojaaSymC
namespace Go.Proofs.Ytopfaapcekiojaa.Sym
open Go Go.RowKit Go.Proofs.Ytopfaapcekiojaa

/-- where a block lies -/
def RowOk (P : Program) (k : Blk) (m : Nat) (cap size : Nat) : Prop := match k.row with
  | none => size = m
  | some r => m = r * P.cellsOf k.ty ∧ r ≤ cap ∧ cap ≤ maxLen ∧ size = cap * P.cellsOf k.ty
def BlkAt (P : Program) (ρ : Env) (B : Nat) (β : Lay) (w : World) (b : Nat) (k : Blk) : Prop :=
  ∃ ad cap cs cur, β b = some (ad, cap) ∧ denL ρ β k.cells = some cs ∧ B ≤ ad ∧ w.heap[ad]? = some (.cells cur k.ty (0, 0)) ∧ cur.toList.take cs.length = cs ∧ cs.length ≤ cur.size ∧ RowOk P k cs.length cap cur.size
/-- the blocks that hold no cells: those for deferred calls, the loops over functions -/
structure Lst where
  ds : List Nat
  ls : List (Nat × Loop)
/-- the world and the blocks -/
structure WR (P : Program) (ρ : Env) (B : Nat) (w0 : World) (L : Lst) (β : Lay) (H : List (Nat × Blk)) (n : Nat) (w : World) : Prop where
  below : Below B w0 w
  base : B ≤ w0.heap.size
  fresh : ∀ b, n ≤ b → β b = none
  inj : ∀ b c k k' x y, lk H b = some k → lk H c = some k' → β b = some x → β c = some y → x.1 = y.1 → b = c
  blk : ∀ b k, lk H b = some k → BlkAt P ρ B β w b k
  ds : ∀ D ∈ L.ds, B ≤ D ∧ w.heap[D]? = some (.deferred (some []))
  ls : ∀ p ∈ L.ls, B ≤ p.1 ∧ w.heap[p.1]? = some (.loop p.2)

theorem lk_cons {α : Type} (u t : Nat) (v : α) (r : List (Nat × α)) : lk ((u, v) :: r) t = if t = u then some v else lk r t := by
  rw [lk_beq]
  by_cases h : t = u
  · rw [if_pos h, h, (by simp : Nat.beq u u = true)]
  · rw [if_neg h]
    have : Nat.beq t u = false := by
      cases hb : Nat.beq t u
      · rfl
      · exact absurd (Nat.eq_of_beq_eq_true hb) h
    rw [this]
theorem lk_setH (b c : Nat) (k : Blk) : ∀ H : List (Nat × Blk), lk (setH H b k) c = if c = b then (lk H b).map fun _ => k else lk H c
  | [] => by simp [setH, lk]
  | (u, v) :: r => by
    unfold setH
    have ih := lk_setH b c k r
    cases hb : Nat.beq b u with
    | true =>
      have e := Nat.eq_of_beq_eq_true hb
      simp only [lk_cons]
      subst e
      by_cases hc : c = b <;> simp [hc]
    | false =>
      have e : b ≠ u := by rintro rfl; simp at hb
      simp only [lk_cons, ih]
      by_cases hc : c = u
      · have : c ≠ b := by rintro rfl; exact e hc
        rw [if_pos hc, if_neg this, if_pos hc]
      · rw [if_neg hc]
        by_cases hcb : c = b
        · rw [if_pos hcb, if_pos hcb, if_neg e]
        · rw [if_neg hcb, if_neg hcb, if_neg hc]
theorem heap_lt {w : World} {a : Nat} {o : Obj} (h : w.heap[a]? = some o) : a < w.heap.size := (Array.getElem?_eq_some_iff.1 h).1
theorem BlkAt.le {P : Program} {ρ : Env} {B : Nat} {β β' : Lay} {w : World} {b : Nat} {k : Blk} (hl : β.le β') (h : BlkAt P ρ B β w b k) : BlkAt P ρ B β' w b k := by
  obtain ⟨ad, cap, cs, cur, h1, h2, r⟩ := h
  exact ⟨ad, cap, cs, cur, hl _ _ h1, denL_le hl h2, r⟩
theorem BlkAt.kept {P : Program} {ρ : Env} {B : Nat} {β : Lay} {w w' : World} {b : Nat} {k : Blk} (hb : ∀ a, a < w.heap.size → w'.heap[a]? = w.heap[a]?) (h : BlkAt P ρ B β w b k) : BlkAt P ρ B β w' b k := by
  obtain ⟨ad, cap, cs, cur, h1, h2, h3, h4, r⟩ := h
  exact ⟨ad, cap, cs, cur, h1, h2, h3, (hb ad (heap_lt h4)).trans h4, r⟩
section
variable {P : Program} {ρ : Env} {B : Nat} {w0 : World} {L : Lst} {β : Lay} {H : List (Nat × Blk)} {n : Nat} {w : World}
/-- what a call leaves -/
theorem WR.after {w' : World} (h : WR P ρ B w0 L β H n w) (hb : Below w.heap.size w w') : WR P ρ B w0 L β H n w' :=
  ⟨h.below.trans (hb.mono (Nat.le_trans h.base h.below.size)), h.base, h.fresh, h.inj, fun b k hk => (h.blk b k hk).kept hb.block,
    fun D hD => ⟨(h.ds D hD).1, (hb.block D (heap_lt (h.ds D hD).2)).trans (h.ds D hD).2⟩, fun p hp => ⟨(h.ls p hp).1, (hb.block p.1 (heap_lt (h.ls p hp).2)).trans (h.ls p hp).2⟩⟩
theorem WR.drew (h : WR P ρ B w0 L β H n w) : WR P ρ B w0 L β H n w.drew := h.after ((Below.refl _ _).drew)
def Lay.put (β : Lay) (n : Nat) (x : Nat × Nat) : Lay := fun b => if b = n then some x else β b
theorem Lay.le_put {β : Lay} {n : Nat} (hf : ∀ b, n ≤ b → β b = none) (x : Nat × Nat) : β.le (β.put n x) := by
  intro b y hb
  unfold Lay.put
  by_cases e : b = n
  · subst e; rw [hf b (Nat.le_refl _)] at hb; cases hb
  · rw [if_neg e]; exact hb
/-- a new block -/
theorem WR.alloc (h : WR P ρ B w0 L β H n w) {cells : List SC} {cs : List Value} (hd : denL ρ β cells = some cs) (ty : TypeId) :
    WR P ρ B w0 L (β.put n (w.heap.size, 0)) ((n, { cells := cells, ty := ty }) :: H) (n + 1) (w.alloc (.cells cs.toArray ty)) := by
  have hle := Lay.le_put h.fresh (w.heap.size, 0)
  have hsz := Nat.le_trans h.base h.below.size
  have old : ∀ b k, lk H b = some k → b < n := by
    intro b k hk
    obtain ⟨ad, cap, cs, cur, h1, _⟩ := h.blk b k hk
    rcases Nat.lt_or_ge b n with hl | hl
    · exact hl
    · rw [h.fresh b hl] at h1; cases h1
  have ltw : ∀ b k x, lk H b = some k → β b = some x → x.1 < w.heap.size := by
    intro b k x hk hx
    obtain ⟨ad, cap, cs, cur, h1, _, _, h4, _⟩ := h.blk b k hk
    rw [hx] at h1; cases h1
    exact heap_lt h4
  have isNew : β.put n (w.heap.size, 0) n = some (w.heap.size, 0) := by simp [Lay.put]
  have isOld : ∀ b, b ≠ n → β.put n (w.heap.size, 0) b = β b := fun b hb => by simp [Lay.put, hb]
  refine ⟨h.below.alloc hsz _, h.base, ?_, ?_, ?_, fun D hD => ⟨(h.ds D hD).1, (Below.heap_alloc w _ D (heap_lt (h.ds D hD).2)).trans (h.ds D hD).2⟩, fun p hp => ⟨(h.ls p hp).1, (Below.heap_alloc w _ p.1 (heap_lt (h.ls p hp).2)).trans (h.ls p hp).2⟩⟩
  · intro b hb
    rw [isOld b (by omega)]
    exact h.fresh b (by omega)
  · intro b c k k' x y hk hk' hx hy e
    rw [lk_cons] at hk hk'
    by_cases eb : b = n <;> by_cases ec : c = n
    · omega
    · rw [if_neg ec] at hk'
      rw [isOld c ec] at hy
      subst eb
      rw [isNew] at hx; cases hx
      have := ltw c k' y hk' hy
      have e : w.heap.size = y.1 := e
      omega
    · rw [if_neg eb] at hk
      rw [isOld b eb] at hx
      subst ec
      rw [isNew] at hy; cases hy
      have := ltw b k x hk hx
      have e : x.1 = w.heap.size := e
      omega
    · rw [if_neg eb] at hk; rw [if_neg ec] at hk'
      rw [isOld b eb] at hx; rw [isOld c ec] at hy
      exact h.inj b c k k' x y hk hk' hx hy e
  · intro b k hk
    rw [lk_cons] at hk
    by_cases eb : b = n
    · rw [if_pos eb] at hk
      cases hk
      subst eb
      refine ⟨w.heap.size, 0, cs, cs.toArray, isNew, denL_le hle hd, hsz, heap_alloc_new w _, by simp, by simp, ?_⟩
      show cs.toArray.size = cs.length
      simp
    · rw [if_neg eb] at hk
      exact ((h.blk b k hk).le hle).kept fun a ha => Below.heap_alloc w (.cells cs.toArray ty) a ha
end
theorem info_of {P : Program} {t : TypeId} {d : TypeDesc} (h : P.underlying t = some d) : ∃ i, P.info? t = some i := by
  unfold Program.underlying at h
  cases hi : P.info? t with
  | none => simp [hi] at h
  | some i => exact ⟨i, rfl⟩
theorem run_isAggT {P : Program} {t : TypeId} {b : Bool} (h : isAggT P t = some b) (w : World) : (isAgg t).run P w = .ok b w ∧ ∃ i, P.info? t = some i := by
  unfold isAggT at h
  split at h
  · rename_i hu; cases h; exact ⟨by unfold isAgg; rw [Sem.run_bind, run_underlying hu w]; rfl, info_of hu⟩
  · rename_i hu; cases h; exact ⟨by unfold isAgg; rw [Sem.run_bind, run_underlying hu w]; rfl, info_of hu⟩
  · rename_i hs ha hu
    cases h
    refine ⟨?_, info_of hu⟩
    unfold isAgg
    rw [Sem.run_bind, run_underlying hu w]
    rename_i d
    cases d <;> first | rfl | (exact absurd rfl (hs _)) | (exact absurd rfl (ha _ _))
  · cases h
theorem cell_pre {w : World} {ad : Nat} {cur : Array Value} {t : TypeId} {cs : List Value} (hg : w.heap[ad]? = some (.cells cur t (0, 0))) (hp : cur.toList.take cs.length = cs) {i : Nat} {v : Value} (hi : cs[i]? = some v) : w.cell? ⟨ad, i, none⟩ = some v := by
  rw [cell_of_row w ad i cur t (0, 0) hg]
  rw [← hp, List.getElem?_take] at hi
  split at hi
  · simpa using hi
  · cases hi
theorem add_lit' (ad off j : Nat) : (⟨ad, off, none⟩ : Addr).add j = ⟨ad, off + j, none⟩ := by unfold Addr.add; split <;> simp_all
theorem take_drop_get {α : Type} {l : List α} {off n j : Nat} {v : α} (h : ((l.drop off).take n)[j]? = some v) : l[off + j]? = some v := by
  rw [List.getElem?_take] at h
  split at h
  · simpa using h
  · cases h
theorem splice_take {α : Type} (cur us : List α) (n off : Nat) (h : off + us.length ≤ n) (hn : n ≤ cur.length) :
    (cur.take off ++ us ++ cur.drop (off + us.length)).take n = (cur.take n).take off ++ us ++ (cur.take n).drop (off + us.length) := by
  have h1 : (cur.take off).length = off := by simp; omega
  rw [List.take_append, List.take_append, List.take_take, List.take_take, List.drop_take, h1, List.take_of_length_le (l := us) (by omega)]
  have h2 : (cur.take off ++ us).length = off + us.length := by simp; omega
  rw [h2, Nat.min_comm]
section
variable {P : Program} {ρ : Env} {B : Nat} {w0 : World} {L : Lst} {β : Lay} {H : List (Nat × Blk)} {n : Nat} {w : World}
/-- a load -/
theorem WR.load (h : WR P ρ B w0 L β H n w) {t : TypeId} {b off : Nat} {v : SP} (hl : loadS P H t b off = some v) :
    ∃ ad cap x, β b = some (ad, cap) ∧ (loadVar t ⟨ad, off, none⟩).run P w = .ok x w ∧ v.den ρ β = some x := by
  unfold loadS at hl
  split at hl
  · rename_i k hk ha
    obtain ⟨ad, cap, cs, cur, h1, h2, _, h4, h5, _, _⟩ := h.blk b k hk
    obtain ⟨hagg, i, hi⟩ := run_isAggT ha w
    split at hl
    · rename_i hle
      have hle : off + P.cellsOf t ≤ k.cells.length := Nat.le_of_ble_eq_true hle
      cases hl
      have hlen := denL_length h2
      have hd := denL_take (denL_drop h2 off) (P.cellsOf t)
      have hn : ((cs.drop off).take (P.cellsOf t)).length = P.cellsOf t := by simp; omega
      have hr := run_loadCells_list (P := P) w ⟨ad, off, none⟩ ((cs.drop off).take (P.cellsOf t)) (fun j u hu => by rw [add_lit']; exact cell_pre h4 h5 (take_drop_get hu))
      rw [hn] at hr
      refine ⟨ad, cap, .agg ((cs.drop off).take (P.cellsOf t)).toArray, h1, ?_, by simp [SP.den, hd]⟩
      simp [loadVar, Sem.run_bind, hagg, run_sizeOf w hi, hr]
    · cases hl
  · rename_i k hk ha
    obtain ⟨ad, cap, cs, cur, h1, h2, _, h4, h5, _, _⟩ := h.blk b k hk
    obtain ⟨hagg, i, hi⟩ := run_isAggT ha w
    cases hx : k.cells[off]? with
    | none => simp [hx] at hl
    | some x =>
      rw [hx] at hl; cases hl
      obtain ⟨u, hu, hv⟩ := denL_get h2 hx
      have hc := cell_pre h4 h5 hv
      refine ⟨ad, cap, u, h1, ?_, hu⟩
      simp [loadVar, Sem.run_bind, hagg, hc]
  · cases hl
theorem Below.setRow' {a w : World} (h : Below B a w) {g : Nat} (hg : B ≤ g) (cs : Array Value) : Below B a (w.setRow g cs) :=
  h.trans ⟨rfl, rfl, rfl, by simp, fun k hk => setRow_other w g k cs (by omega)⟩
/-- a store -/
theorem WR.store {cx : Ctx} (ok : cx.Ok ρ) (h : WR cx.P ρ B w0 L β H n w) {t : TypeId} {b off : Nat} {k : Blk} {v : SP} {x : Value} (hk : lk H b = some k) (hv : v.den ρ β = some x)
    (hs : v.cells.length = cx.P.cellsOf t) (hle : off + v.cells.length ≤ k.cells.length) (hi : ∃ i, cx.P.info? t = some i) :
    ∃ ad cap w', β b = some (ad, cap) ∧ (storeVar t ⟨ad, off, none⟩ x).run cx.P w = .ok () w' ∧ WR cx.P ρ B w0 L β (setH H b { k with cells := splice k.cells off v.cells }) n w' := by
  obtain ⟨ad, cap, cs, cur, h1, h2, h3, h4, h5, h6, h7⟩ := h.blk b k hk
  obtain ⟨us, hus, hc⟩ := SP.cells_ok ok hv
  obtain ⟨i, hi⟩ := hi
  have hul := denL_length hus
  have hcl := denL_length h2
  have hst := run_storeCells_at cx.P ad off k.ty us 0 cur w h4 (by omega) (denL_one ok hus)
  simp only [Nat.add_zero] at hst
  have hrun : (storeVar t ⟨ad, off, none⟩ x).run cx.P w = .ok () (w.setRow ad (cur.toList.take off ++ us ++ cur.toList.drop (off + us.length)).toArray) := by
    unfold storeVar
    rw [Sem.run_bind, run_sizeOf w hi]
    simp only [Result.andThen_ok]
    have : ¬ (x.cells.size ≠ cx.P.cellsOf t) := by rw [hc]; simp; omega
    rw [if_neg this, hc]
    simpa using hst
  refine ⟨ad, cap, _, h1, hrun, ⟨Below.setRow' h.below h3 _, h.base, h.fresh, ?_, ?_, fun D hD => ⟨(h.ds D hD).1, (setRow_other w ad D _ (fun e => by have h9 := (h.ds D hD).2; rw [e, h4] at h9; cases h9)).trans (h.ds D hD).2⟩,
    fun p hp => ⟨(h.ls p hp).1, (setRow_other w ad p.1 _ (fun e => by have h9 := (h.ls p hp).2; rw [e, h4] at h9; cases h9)).trans (h.ls p hp).2⟩⟩⟩
  · intro b' c' k1 k2 y z hb hc hy hz e
    rw [lk_setH] at hb hc
    have lift : ∀ (q : Nat) (kk : Blk), (if q = b then (lk H b).map fun _ => { k with cells := splice k.cells off v.cells } else lk H q) = some kk → ∃ k', lk H q = some k' := by
      intro q kk hq
      split at hq
      · rename_i e; subst e; exact ⟨k, hk⟩
      · exact ⟨kk, hq⟩
    obtain ⟨k1', hb'⟩ := lift _ _ hb
    obtain ⟨k2', hc'⟩ := lift _ _ hc
    exact h.inj b' c' k1' k2' y z hb' hc' hy hz e
  · intro b' k' hb'
    rw [lk_setH] at hb'
    split at hb'
    · rename_i e
      subst e
      rw [hk] at hb'
      simp at hb'
      subst hb'
      have hd : denL ρ β (splice k.cells off v.cells) = some (cs.take off ++ us ++ cs.drop (off + us.length)) := by
        unfold splice
        rw [← hul]
        exact denL_append (denL_append (denL_take h2 off) hus) (denL_drop h2 _)
      have hlen : (cs.take off ++ us ++ cs.drop (off + us.length)).length = cs.length := by simp; omega
      refine ⟨ad, cap, _, _, h1, hd, h3, setRow_heap w ad cur _ k.ty _ h4, ?_, ?_, ?_⟩
      · rw [hlen]
        have e := splice_take cur.toList us cs.length off (by omega) (by simpa using h6)
        rw [h5] at e
        exact e
      · simp
        omega
      · have hsz : (cur.toList.take off ++ us ++ cur.toList.drop (off + us.length)).toArray.size = cur.size := by simp; omega
        rw [hlen, hsz]
        exact h7
    · rename_i e
      obtain ⟨ad', cap', cs', cur', g1, g2, g3, g4, r⟩ := h.blk b' k' hb'
      refine ⟨ad', cap', cs', cur', g1, g2, g3, ?_, r⟩
      rw [setRow_other w ad ad' _ (fun e' => e (h.inj b' b k' k _ _ hb' hk g1 h1 e'))]
      exact g4
/-- a block that holds no cells is turned -/
theorem WR.putObj (h : WR P ρ B w0 L β H n w) {l : Nat} {o o' : Obj} (hl : w.heap[l]? = some o) (hc : ∀ cs t r, o ≠ .cells cs t r) (hB : B ≤ l) {L' : Lst} (hd : ∀ D ∈ L'.ds, D ∈ L.ds ∧ D ≠ l)
    (hp : ∀ p ∈ L'.ls, (p ∈ L.ls ∧ p.1 ≠ l) ∨ (p.1 = l ∧ o' = .loop p.2)) : WR P ρ B w0 L' β H n (w.putObj l o') := by
  have hlt := heap_lt hl
  refine ⟨h.below.trans ⟨rfl, rfl, rfl, by simp, fun k hk => World.putObj_heap_other (by omega)⟩, h.base, h.fresh, h.inj, ?_, ?_, ?_⟩
  · intro b k hb
    obtain ⟨ad, cap, cs, cur, h1, h2, h3, h4, r⟩ := h.blk b k hb
    refine ⟨ad, cap, cs, cur, h1, h2, h3, ?_, r⟩
    have hne : ad ≠ l := by
      rintro rfl
      rw [hl] at h4
      cases h4
      exact hc _ _ _ rfl
    exact (World.putObj_heap_other hne).trans h4
  · intro D hD
    obtain ⟨h1, h2⟩ := hd D hD
    exact ⟨(h.ds D h1).1, (World.putObj_heap_other h2).trans (h.ds D h1).2⟩
  · intro p hpp
    rcases hp p hpp with ⟨h1, h2⟩ | ⟨h1, h2⟩
    · exact ⟨(h.ls p h1).1, (World.putObj_heap_other h2).trans (h.ls p h1).2⟩
    · refine ⟨by omega, ?_⟩
      rw [h1, ← h2]
      exact World.putObj_heap_same hlt
/-- a new block that holds no cells -/
theorem WR.newObj (h : WR P ρ B w0 L β H n w) {o : Obj} {L' : Lst} (hd : ∀ D ∈ L'.ds, D ∈ L.ds ∨ (D = w.heap.size ∧ o = .deferred (some [])))
    (hp : ∀ p ∈ L'.ls, p ∈ L.ls ∨ (p.1 = w.heap.size ∧ o = .loop p.2)) : WR P ρ B w0 L' β H n (w.alloc o) := by
  have hsz := Nat.le_trans h.base h.below.size
  refine ⟨h.below.alloc hsz _, h.base, h.fresh, h.inj, fun b k hb => (h.blk b k hb).kept fun a ha => Below.heap_alloc w o a ha, ?_, ?_⟩
  · intro D hD
    rcases hd D hD with h1 | ⟨h1, h2⟩
    · exact ⟨(h.ds D h1).1, (Below.heap_alloc w o D (heap_lt (h.ds D h1).2)).trans (h.ds D h1).2⟩
    · rw [h1, h2]; exact ⟨hsz, World.alloc_heap_new w _⟩
  · intro p hpp
    rcases hp p hpp with h1 | ⟨h1, h2⟩
    · exact ⟨(h.ls p h1).1, (Below.heap_alloc w o p.1 (heap_lt (h.ls p h1).2)).trans (h.ls p h1).2⟩
    · rw [h1, h2]; exact ⟨hsz, World.alloc_heap_new w _⟩
/-- a number for it -/
theorem WR.number (h : WR P ρ B w0 L β H n w) (x : Nat × Nat) : WR P ρ B w0 L (β.put n x) H (n + 1) w := by
  have hle := Lay.le_put h.fresh x
  have old : ∀ b k, lk H b = some k → b < n := by
    intro b k hk
    obtain ⟨ad, cap, cs, cur, h1, _⟩ := h.blk b k hk
    rcases Nat.lt_or_ge b n with hl | hl
    · exact hl
    · rw [h.fresh b hl] at h1; cases h1
  have isOld : ∀ b, b ≠ n → β.put n x b = β b := fun b hb => by simp [Lay.put, hb]
  refine ⟨h.below, h.base, ?_, ?_, fun b k hb => (h.blk b k hb).le hle, h.ds, h.ls⟩
  · intro b hb
    rw [isOld b (by omega)]
    exact h.fresh b (by omega)
  · intro b c k k' y z hk hk' hy hz e
    rw [isOld b (by have := old b k hk; omega)] at hy
    rw [isOld c (by have := old c k' hk'; omega)] at hz
    exact h.inj b c k k' y z hk hk' hy hz e
theorem lk_delH (b c : Nat) : ∀ H : List (Nat × Blk), lk (delH H b) c = if c = b then none else lk H c
  | [] => by simp [delH, lk]
  | (u, v) :: r => by
    unfold delH
    have ih := lk_delH b c r
    cases hb : Nat.beq b u with
    | true =>
      have e := Nat.eq_of_beq_eq_true hb
      subst e
      simp only [lk_cons, ih]
      by_cases hc : c = b <;> simp [hc]
    | false =>
      have e : b ≠ u := by rintro rfl; simp at hb
      simp only [lk_cons, ih]
      by_cases hc : c = b
      · subst hc; rw [if_neg e, if_pos rfl, if_pos rfl]
      · simp [hc]
theorem lk_mem {α : Type} : ∀ {l : List (Nat × α)} {t : Nat} {v : α}, lk l t = some v → (t, v) ∈ l
  | [], _, _, h => by cases h
  | (u, x) :: r, t, v, h => by
    rw [lk_cons] at h
    split at h
    · rename_i e; cases h; subst e; exact List.mem_cons_self
    · exact List.mem_cons_of_mem _ (lk_mem h)
/-- a row of one's own has grown: it lies at g now -/
theorem WR.row (h : WR P ρ B w0 L β H n w) {w' : World} {g cap : Nat} {cells : List SC} {cs : List Value} {e : TypeId} {r : Nat} {cur : Array Value} {H' : List (Nat × Blk)} (hd : denL ρ β cells = some cs) (hB : B ≤ g)
    (hb : Below B w0 w') (hk : ∀ k, k < w.heap.size → k ≠ g → w'.heap[k]? = w.heap[k]?) (hg : w'.heap[g]? = some (.cells cur e (0, 0))) (ht : cur.toList.take cs.length = cs) (hr : RowOk P { cells := cells, ty := e, row := some r } cs.length cap cur.size)
    (hs : ∀ b k, lk H' b = some k → lk H b = some k) (hne : ∀ b k x, lk H' b = some k → β b = some x → x.1 ≠ g) (hgo : g < w.heap.size → ∃ cs t z, w.heap[g]? = some (.cells cs t z)) :
    WR P ρ B w0 L (β.put n (g, cap)) ((n, { cells := cells, ty := e, row := some r }) :: H') (n + 1) w' := by
  have hle := Lay.le_put h.fresh (g, cap)
  have old : ∀ b k, lk H b = some k → b < n := by
    intro b k hk
    obtain ⟨ad, cap, cs, cur, h1, _⟩ := h.blk b k hk
    rcases Nat.lt_or_ge b n with hl | hl
    · exact hl
    · rw [h.fresh b hl] at h1; cases h1
  have isNew : β.put n (g, cap) n = some (g, cap) := by simp [Lay.put]
  have isOld : ∀ b, b ≠ n → β.put n (g, cap) b = β b := fun b hb => by simp [Lay.put, hb]
  have keep : ∀ (k : Nat) (o : Obj), w.heap[k]? = some o → (∀ cs t z, o ≠ .cells cs t z) → w'.heap[k]? = some o := by
    intro k o ho hc
    refine (hk k (heap_lt ho) ?_).trans ho
    rintro rfl
    obtain ⟨cs, t, z, hz⟩ := hgo (heap_lt ho)
    rw [ho] at hz
    cases hz
    exact hc _ _ _ rfl
  refine ⟨hb, h.base, ?_, ?_, ?_, fun D hD => ⟨(h.ds D hD).1, keep D _ (h.ds D hD).2 (by intro _ _ _ q; cases q)⟩, fun p hp => ⟨(h.ls p hp).1, keep p.1 _ (h.ls p hp).2 (by intro _ _ _ q; cases q)⟩⟩
  · intro b hb
    rw [isOld b (by omega)]
    exact h.fresh b (by omega)
  · intro b c k k' x y hk hk' hx hy e
    rw [lk_cons] at hk hk'
    by_cases eb : b = n <;> by_cases ec : c = n
    · omega
    · rw [if_neg ec] at hk'
      rw [isOld c ec] at hy
      subst eb
      rw [isNew] at hx; cases hx
      exact absurd e.symm (hne c k' y hk' hy)
    · rw [if_neg eb] at hk
      rw [isOld b eb] at hx
      subst ec
      rw [isNew] at hy; cases hy
      exact absurd e (hne b k x hk hx)
    · rw [if_neg eb] at hk; rw [if_neg ec] at hk'
      rw [isOld b eb] at hx; rw [isOld c ec] at hy
      exact h.inj b c k k' x y (hs b k hk) (hs c k' hk') hx hy e
  · intro b k hkb
    rw [lk_cons] at hkb
    by_cases eb : b = n
    · rw [if_pos eb] at hkb
      cases hkb
      subst eb
      refine ⟨g, cap, cs, cur, isNew, denL_le hle hd, hB, hg, ht, ?_, hr⟩
      have := congrArg List.length ht
      simp at this
      omega
    · rw [if_neg eb] at hkb
      obtain ⟨ad, c', cs', cur', g1, g2, g3, g4, g5⟩ := h.blk b k (hs b k hkb)
      refine ⟨ad, c', cs', cur', hle _ _ g1, denL_le hle g2, g3, ?_, g5⟩
      exact (hk ad (heap_lt g4) (hne b k _ hkb g1)).trans g4
end
end Go.Proofs.Ytopfaapcekiojaa.Sym
