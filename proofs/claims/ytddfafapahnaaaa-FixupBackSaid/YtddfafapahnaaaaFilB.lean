/- FixupFills and FixupBack: what their runs are given is so. -/
import Derived.Test.YtddfafapahnaaaaFilA
import Derived.Handy
import Derived.ProofKit
import Derived.Laws.BytesArg
namespace Go.Proofs.Ytddfafapahnaaaa.Fil
open Go Go.RowKit Go.Proofs.Ytddfafapahnaaaa Sym Go.Sort Go.Joins
set_option linter.unusedVariables false

theorem u8L_ok {ρ : Env} {β : Lay} {pc : PC} (ok : PcOk ρ pc) : ∀ {cs : List SC} {l : List SE} {vs : List Value}, u8L pc cs = some l → denL ρ β cs = some vs → vs = (l.map (·.int ρ)).map (Value.int .u8) ∧ ∀ z ∈ l.map (·.int ρ), 0 ≤ z ∧ z < 256
  | [], l, vs, h, hd => by cases h; cases hd; exact ⟨rfl, by intro z hz; cases hz⟩
  | x :: r, l, vs, h, hd => by
    obtain ⟨v, t, hv, ht, rfl⟩ := denL_cons hd
    unfold u8L at h
    split at h
    · rename_i e
      split at h
      · rename_i l' hlow hr
        cases h
        obtain ⟨h1, h2⟩ := u8L_ok ok hr ht
        have h3 := Sym.low_ok ok hlow
        cases hv
        refine ⟨by rw [h1]; rfl, fun z hz => ?_⟩
        rcases List.mem_cons.1 hz with rfl | hz
        · exact ⟨h3.1, h3.2⟩
        · exact h2 z hz
      · cases h
    · cases h
theorem takeB_ok {ρ : Env} {pc : PC} (ok : PcOk ρ pc) : ∀ {n j : Nat} {l : List SE}, takeB pc n j = some l → l = (List.range' j n).map byL ∧ ∀ z ∈ l.map (·.int ρ), 0 ≤ z ∧ z < 256
  | 0, j, l, h => by cases h; exact ⟨rfl, by intro z hz; cases hz⟩
  | n + 1, j, l, h => by
    unfold takeB at h
    split at h
    · rename_i l' hlow hr
      cases h
      obtain ⟨h1, h2⟩ := takeB_ok ok hr
      have h3 := Sym.low_ok ok hlow
      refine ⟨by rw [h1, List.range'_succ]; rfl, fun z hz => ?_⟩
      rcases List.mem_cons.1 hz with rfl | hz
      · exact ⟨h3.1, h3.2⟩
      · exact h2 z hz
    · cases h
theorem fix8_ok {ρ : Env} {pc : PC} (ok : PcOk ρ pc) (e : SE) : (fix8 pc e).int ρ = e.int ρ := by
  unfold fix8
  split
  · rename_i x
    split
    · rename_i h
      obtain ⟨h0, h1⟩ := Sym.low_ok ok h
      show x.int ρ = x.int ρ / 2 ^ 0 % 2 ^ 8
      rw [show (2 : Int) ^ 0 = 1 from rfl, Int.ediv_one, Int.emod_eq_of_lt h0 h1]
    · rfl
  · rfl
theorem eqLs_ok {ρ : Env} {pc : PC} (ok : PcOk ρ pc) : ∀ l m : List SE, (eqLs pc l m).tru ρ = decide (l.map (·.int ρ) = m.map (·.int ρ))
  | [], [] => by simp [eqLs]; rfl
  | [], _ :: _ => by simp [eqLs]; rfl
  | _ :: _, [] => by simp [eqLs]; rfl
  | a :: r, b :: t => by
    unfold eqLs
    rw [mkAnd_ok]
    have h1 := mkEq_ok ok (fix8 pc a) (fix8 pc b)
    rw [fix8_ok ok, fix8_ok ok] at h1
    have h2 := eqLs_ok ok r t
    show ((mkEq pc (fix8 pc a) (fix8 pc b)).tru ρ && (eqLs pc r t).tru ρ) = _
    rw [h1, h2]
    have h3 : (a.int ρ == b.int ρ) = decide (a.int ρ = b.int ρ) := by by_cases e : a.int ρ = b.int ρ <;> simp [e]
    rw [h3]
    simp only [List.map_cons, List.cons.injEq, Bool.decide_and]
theorem str_inj : ∀ {a b : List Int}, (∀ z ∈ a, 0 ≤ z ∧ z < 256) → (∀ z ∈ b, 0 ≤ z ∧ z < 256) → (a.map fun n => UInt8.ofNat n.toNat) = (b.map fun n => UInt8.ofNat n.toNat) → a = b
  | [], [], _, _, _ => rfl
  | [], _ :: _, _, _, h => by cases h
  | _ :: _, [], _, _, h => by cases h
  | x :: a, y :: b, ha, hb, h => by
    simp only [List.map_cons, List.cons.injEq] at h
    have h1 := ha x List.mem_cons_self
    have h2 := hb y List.mem_cons_self
    have e : (UInt8.ofNat x.toNat).toNat = (UInt8.ofNat y.toNat).toNat := by rw [h.1]
    simp only [UInt8.toNat_ofNat'] at e
    have e' : x = y := by omega
    rw [e', str_inj (fun z hz => ha z (List.mem_cons_of_mem _ hz)) (fun z hz => hb z (List.mem_cons_of_mem _ hz)) h.2]
theorem str_eq {a b : List Int} (ha : ∀ z ∈ a, 0 ≤ z ∧ z < 256) (hb : ∀ z ∈ b, 0 ≤ z ∧ z < 256) : ((strOfNums a).toList == (strOfNums b).toList) = decide (a = b) := by
  by_cases e : a = b
  · subst e; simp
  · rw [decide_eq_false e]
    refine beq_eq_false_iff_ne.2 fun h => e (str_inj ha hb ?_)
    rw [ByteArray.toList_eq, ByteArray.toList_eq, strOfNums_data, strOfNums_data] at h
    exact h
theorem conv_zero (w : World) (p : Option Addr) (c : Nat) : (convert 60 9 (.slice p 0 c)).run Try.prog w = .ok (.string (strOfNums [])) w := by
  rw [run_convert_bytes_string w 60 9 5 _ 0 c Try.underlying60 Try.underlying5 Try.underlying9]
  cases p <;> simp [Conv.bytesToString, loadCells]
  all_goals rfl
/-- bytes.Equal of whatever two slices whose bytes are told -/
theorem equal_any (v1 v2 : Value) (a b : List Int) (w : World) (k1 : (convert 60 9 v1).run Try.prog w = .ok (.string (strOfNums a)) w) (k2 : (convert 60 9 v2).run Try.prog w = .ok (.string (strOfNums b)) w)
    (ha : ∀ z ∈ a, 0 ≤ z ∧ z < 256) (hb : ∀ z ∈ b, 0 ≤ z ∧ z < 256) :
    Calls Try.prog 30 #[v1, v2] w (Ret (.bool (decide (a = b))) w) := by
  rw [← str_eq ha hb]
  clear ha hb
  go_enter Try.func30, Try.ntmps30
  go_wp2
  go_ret
  exact ⟨rfl, Below.refl _ _⟩
section
variable {w : World} {kd sz add v : Int} {pl mi : ByteArray} {nb cb : Nat} {Ab : Option Addr} {lb : List Int}
theorem bytesS_ok {cx : Ctx} (hc : cx.P = Try.prog) (hB : BRow w Ab nb lb) {pc : PC} {H : List (Nat × Blk)} {sv : SV} {l : List SE} (h : bytesS Try.prog pc H sv = some l) (ok : PcOk (filEnv w kd sz add v pl mi nb cb Ab lb) pc)
    {L : Lst} {β : Lay} {n : Nat} {w' : World} (hW : WR cx.P (filEnv w kd sz add v pl mi nb cb Ab lb) (filEnv w kd sz add v pl mi nb cb Ab lb).B (filEnv w kd sz add v pl mi nb cb Ab lb).w0 L β H n w') {V : Value} (hV : sv.den (filEnv w kd sz add v pl mi nb cb Ab lb) β = some V) :
    (convert 60 9 V).run Try.prog w' = .ok (.string (strOfNums (l.map (·.int (filEnv w kd sz add v pl mi nb cb Ab lb))))) w' ∧ ∀ z ∈ l.map (·.int (filEnv w kd sz add v pl mi nb cb Ab lb)), 0 ≤ z ∧ z < 256 := by
  unfold bytesS at h
  split at h
  · cases h
    cases hV
    exact ⟨conv_zero w' none 0, by intro z hz; cases hz⟩
  · split at h
    · rename_i m hm
      split at h
      · rename_i h8
        obtain ⟨e1, e2⟩ := takeB_ok ok h
        have hn := evalE_ok ok hm
        have hn : (nb : Int) = (m : Int) := hn
        have hn : nb = m := by omega
        have h8 := Nat.le_of_ble_eq_true h8
        refine ⟨?_, e2⟩
        have hl : l.map (·.int (filEnv w kd sz add v pl mi nb cb Ab lb)) = lb := by
          rw [e1]
          have hlen : lb.length = m := hB.1.trans hn
          clear e1 e2 hV hW h hm hB hn
          subst hlen
          rcases lb with _ | ⟨a0, _ | ⟨a1, _ | ⟨a2, _ | ⟨a3, _ | ⟨a4, _ | ⟨a5, _ | ⟨a6, _ | ⟨a7, _ | ⟨a8, r⟩⟩⟩⟩⟩⟩⟩⟩⟩
          all_goals first
            | rfl
            | (simp only [List.length_cons] at h8; omega)
        rw [hl]
        have e6 : ((filEnv w kd sz add v pl mi nb cb Ab lb).i 6).toNat = nb := Int.toNat_natCast nb
        have hV' : some (Value.slice Ab ((filEnv w kd sz add v pl mi nb cb Ab lb).i 6).toNat cb) = some V := hV
        rw [e6] at hV'
        cases hV'
        have hS : BRow w' Ab nb lb := hB.keep hW.below
        rcases Nat.eq_zero_or_pos nb with h0 | h0
        · have e0 : lb = [] := List.length_eq_zero_iff.1 (by rw [hB.1, h0])
          rw [e0, h0]
          exact conv_zero w' Ab cb
        · obtain ⟨b, off, rfl, _, hcell⟩ := hS.2.2 h0
          refine run_convert_bytes_arg (P := Try.prog) w' 60 5 Try.underlying60 Try.underlying5 b off nb cb lb hB.1 (fun i hi => ?_) 9 Try.underlying9
          have hi' : i < lb.length := by rw [hB.1]; exact hi
          rw [hcell i hi']
          simp [List.getD, List.getElem?_eq_getElem hi']
      · cases h
    · cases h
  · split at h
    · rename_i x m cs h1 hel
      obtain ⟨a, c, vs, rfl, hd, hlen, hcell⟩ := elemsS_ok (P := Try.prog) (by rw [← hc]; exact hW) hel hV
      obtain ⟨e1, e2⟩ := u8L_ok ok h hd
      refine ⟨?_, e2⟩
      have h1 := Nat.eq_of_beq_eq_true h1
      rw [h1, Nat.mul_one] at hlen
      have hsp : a.spot = none := by
        unfold elemsS at hel
        split at hel
        · obtain ⟨y, hy, e⟩ := slice_ok (ρ := filEnv w kd sz add v pl mi nb cb Ab lb) hV; cases e; rfl
        · obtain ⟨y, hy, e⟩ := row_ok (ρ := filEnv w kd sz add v pl mi nb cb Ab lb) hV; cases e; rfl
        · cases hel
      obtain ⟨b, off, sp⟩ := a
      cases hsp
      refine run_convert_bytes_arg (P := Try.prog) w' 60 5 Try.underlying60 Try.underlying5 b off m c _ (by rw [e1] at hlen; simpa using hlen) (fun i hi => ?_) 9 Try.underlying9
      have hi' : i < (l.map (·.int (filEnv w kd sz add v pl mi nb cb Ab lb))).length := by rw [e1, List.length_map] at hlen; omega
      have := hcell i (.int .u8 ((l.map (·.int (filEnv w kd sz add v pl mi nb cb Ab lb))).getD i 0)) (by rw [e1]; simp only [List.getElem?_map, List.getD, List.getElem?_eq_getElem hi']; simp)
      rw [add_lit'] at this
      exact this
    · cases h
  · cases h
theorem equal_s {cx : Ctx} (hc : cx.P = Try.prog) (hB : BRow w Ab nb lb) : SumOk cx (filEnv w kd sz add v pl mi nb cb Ab lb) 30 (equalS Try.prog) := by
  intro pc H args u hg ok L β vals w' m hW ha
  unfold equalS at hg
  split at hg
  · rename_i x y
    split at hg
    · rename_i l1 l2 h1 h2
      cases hg
      obtain ⟨v1, r1, hv1, hr1, rfl⟩ := denA_cons ha
      obtain ⟨v2, r2, hv2, hr2, rfl⟩ := denA_cons hr1
      cases hr2
      obtain ⟨k1, b1⟩ := bytesS_ok hc hB h1 ok hW hv1
      obtain ⟨k2, b2⟩ := bytesS_ok hc hB h2 ok hW hv2
      refine ⟨_, rfl, ?_⟩
      rw [hc, eqLs_ok ok]
      exact equal_any _ _ _ _ w' k1 k2 b1 b2
    · cases hg
  · cases hg
end
end Go.Proofs.Ytddfafapahnaaaa.Fil
