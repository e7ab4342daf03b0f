/- The last steps of Resolve: what fits, numbers, relocations. -/
import Derived.Test.YtddfafapahnaaaaFixT
import Derived.Test.YtddfafapahnaaaaFixS
import Derived.Test.YtddfafapahnaaaaFixB
namespace Go.Proofs.Ytddfafapahnaaaa
open Go.RowKit Go.Sort Go.Shelf
attribute [local go_sem] cell_gr frozen_gr
set_option linter.unusedVariables false
set_option linter.unusedSimpArgs false

def fixV (p : Bool) (v : Int) (r : Bool) (o t s a : Int) (e : Int) : Value := .tuple #[.agg #[.bool p, .int .i64 v, .bool r, .int .i64 o, .int .i64 t, .int .i64 s, .int .i64 a], .int .i64 e]
def badV (e : Int) : Value := fixV false 0 false 0 0 0 0 e
def fitsH (kd sz v : Int) : Bool := (reachT kd sz).2.2.2 && decide ((reachT kd sz).1 ≤ v) && decide (v ≤ (reachT kd sz).2.1) && (v.tmod (reachT kd sz).2.2.1 == 0)
def numV (kd sz n : Int) : Value := if nearB kd || pagesB kd then badV 180 else if fitsH kd sz n then fixV true n false 0 0 0 0 0 else badV 181
def relV (kd sz off : Int) (there : Bool) (num n : Int) (far : Bool) : Value :=
  if (typeT kd sz far).2 != 0 then badV (typeT kd sz far).2 else if !there || decide (num < 0) then badV 180 else fixV false 0 true off (typeT kd sz far).1 num n 0
theorem reach_unit {kd sz : Int} (h : (reachT kd sz).2.2.2 = true) : (reachT kd sz).2.2.1 = 4 ∨ (reachT kd sz).2.2.1 = 1 := by
  unfold reachT reachK at *
  split at h
  · repeat' split at h
    all_goals simp_all
  · cases h
theorem near_any (k s a : Int) (p m : ByteArray) (w : World) : Calls Try.prog 36 #[holeV k s a p m] w (Ret (.bool (nearB k)) w) := by
  unfold holeV
  by_cases h1 : 1 ≤ k
  · have b1 : decide (1 ≤ k) = true := decide_eq_true h1
    have e : nearB k = decide (k ≤ 6) := by unfold nearB; rw [b1]; rfl
    rw [e]
    clear e h1
    go_enter Try.func36, Try.ntmps36
    go_wp2
    go_returns
    exact ⟨rfl, bnew _ _⟩
  · have b1 : decide (1 ≤ k) = false := decide_eq_false h1
    have e : nearB k = false := by unfold nearB; rw [b1]; rfl
    rw [e]
    clear e h1
    go_enter Try.func36, Try.ntmps36
    go_wp2
    go_returns
    exact ⟨rfl, bnew _ _⟩
theorem pages_any (k s a : Int) (p m : ByteArray) (w : World) : Calls Try.prog 46 #[holeV k s a p m] w (Ret (.bool (pagesB k)) w) := by
  unfold holeV
  by_cases h1 : 7 ≤ k
  · have b1 : decide (7 ≤ k) = true := decide_eq_true h1
    have e : pagesB k = decide (k ≤ 9) := by unfold pagesB; rw [b1]; rfl
    rw [e]
    clear e h1
    go_enter Try.func46, Try.ntmps46
    go_wp2
    go_returns
    exact ⟨rfl, bnew _ _⟩
  · have b1 : decide (7 ≤ k) = false := decide_eq_false h1
    have e : pagesB k = false := by unfold pagesB; rw [b1]; rfl
    rw [e]
    clear e h1
    go_enter Try.func46, Try.ntmps46
    go_wp2
    go_returns
    exact ⟨rfl, bnew _ _⟩
set_option maxHeartbeats 1000000 in
theorem hfits_any (k s a : Int) (p m : ByteArray) (v : Int) (w : World) : Calls Try.prog 37 #[holeV k s a p m, .int .i64 v] w (Ret (.bool (fitsH k s v)) w) := by
  have hc := Lib.hid (reach_any k s a p m)
  have hu := reach_unit (kd := k) (sz := s)
  unfold reachV at hc
  unfold fitsH
  generalize (reachT k s).1 = lo at *
  generalize (reachT k s).2.1 = hi at *
  generalize (reachT k s).2.2.1 = u at *
  generalize (reachT k s).2.2.2 = is at *
  unfold holeV at *
  have hcs : is = false ∨ is = true ∧ decide (lo ≤ v) = false ∨ is = true ∧ decide (lo ≤ v) = true ∧ decide (v ≤ hi) = false ∨ is = true ∧ decide (lo ≤ v) = true ∧ decide (v ≤ hi) = true ∧ (u = 4 ∨ u = 1) := by
    cases is
    · exact .inl rfl
    · cases h1 : decide (lo ≤ v)
      · exact .inr (.inl ⟨rfl, rfl⟩)
      · cases h2 : decide (v ≤ hi)
        · exact .inr (.inr (.inl ⟨rfl, rfl, rfl⟩))
        · exact .inr (.inr (.inr ⟨rfl, rfl, rfl, hu rfl⟩))
  clear hu
  rcases hcs with rfl | ⟨rfl, b1⟩ | ⟨rfl, b1, b2⟩ | ⟨rfl, b1, b2, rfl | rfl⟩
  all_goals
    first | rw [b1] | skip
    first | rw [b2] | skip
    go_enter Try.func37, Try.ntmps37
    go_wp2_with (go_at_call 14; refine (hc.out _).mono ?_; rintro e w1 ⟨rfl, hb1⟩)
    go_returns
    exact ⟨by simp, bone hb1⟩
set_option maxHeartbeats 1000000 in
theorem rhfits_any (k s a : Int) (p m : ByteArray) (v : Int) (w : World) : Calls Try.prog 41 #[holeV k s a p m, .int .i64 v] w (Ret (.bool (fitsH k s v)) w) := by
  have hc := Lib.hid (rreach_any k s a p m)
  have hu := reach_unit (kd := k) (sz := s)
  unfold reachV at hc
  unfold fitsH
  generalize (reachT k s).1 = lo at *
  generalize (reachT k s).2.1 = hi at *
  generalize (reachT k s).2.2.1 = u at *
  generalize (reachT k s).2.2.2 = is at *
  unfold holeV at *
  have hcs : is = false ∨ is = true ∧ decide (lo ≤ v) = false ∨ is = true ∧ decide (lo ≤ v) = true ∧ decide (v ≤ hi) = false ∨ is = true ∧ decide (lo ≤ v) = true ∧ decide (v ≤ hi) = true ∧ (u = 4 ∨ u = 1) := by
    cases is
    · exact .inl rfl
    · cases h1 : decide (lo ≤ v)
      · exact .inr (.inl ⟨rfl, rfl⟩)
      · cases h2 : decide (v ≤ hi)
        · exact .inr (.inr (.inl ⟨rfl, rfl, rfl⟩))
        · exact .inr (.inr (.inr ⟨rfl, rfl, rfl, hu rfl⟩))
  clear hu
  rcases hcs with rfl | ⟨rfl, b1⟩ | ⟨rfl, b1, b2⟩ | ⟨rfl, b1, b2, rfl | rfl⟩
  all_goals
    first | rw [b1] | skip
    first | rw [b2] | skip
    go_enter Try.func41, Try.ntmps41
    go_wp2_with (go_at_call 15; refine (hc.out _).mono ?_; rintro e w1 ⟨rfl, hb1⟩)
    go_returns
    exact ⟨by simp, bone hb1⟩
set_option maxHeartbeats 1000000 in
theorem number_any (k s a : Int) (p m : ByteArray) (n : Int) (w : World) : Calls Try.prog 35 #[holeV k s a p m, .int .i64 n] w (Ret (numV k s n) w) := by
  have c1 := Lib.hid (near_any k s a p m)
  have c2 := Lib.hid (pages_any k s a p m)
  have c3 := Lib.hid (hfits_any k s a p m n)
  have hB : Below w.heap.size w w := Below.refl _ _
  unfold numV
  unfold holeV at *
  generalize nearB k = b1 at *
  generalize pagesB k = b2 at *
  generalize fitsH k s n = b3 at *
  cases b1 <;> cases b2 <;> cases b3
  all_goals
    go_enter Try.func35, Try.ntmps35
    go_wp2_with (fail)
    obtain ⟨W0, hW0, hH, hR, hB⟩ := blocks2 w [.int .i64 k, .int .i64 s, .int .i64 a, .string p, .string m] 25 [.bool false, .int .i64 0, .bool false, .int .i64 0, .int .i64 0, .int .i64 0, .int .i64 0] 33
    rw [← hW0]
    clear hW0
    obtain ⟨k0, -⟩ := hH.cell 0 _ rfl; obtain ⟨k1, -⟩ := hH.cell 1 _ rfl; obtain ⟨k2, -⟩ := hH.cell 2 _ rfl; obtain ⟨k3, -⟩ := hH.cell 3 _ rfl; obtain ⟨k4, -⟩ := hH.cell 4 _ rfl
    have kz := hH.lt
    go_wp2_with (first
      | (go_at_call 36; refine (c1.out _).mono ?_; rintro e w1 ⟨rfl, hb1⟩; replace hH := hH.below hb1; replace hR := hR.below hb1; replace hB := bthen hB hb1 hB.size; clear k0 k1 k2 k3 k4 kz; obtain ⟨k0, -⟩ := hH.cell 0 _ rfl; obtain ⟨k1, -⟩ := hH.cell 1 _ rfl; obtain ⟨k2, -⟩ := hH.cell 2 _ rfl; obtain ⟨k3, -⟩ := hH.cell 3 _ rfl; obtain ⟨k4, -⟩ := hH.cell 4 _ rfl; have kz := hH.lt)
      | (go_at_call 46; refine (c2.out _).mono ?_; rintro e w2 ⟨rfl, hb2⟩; replace hH := hH.below hb2; replace hR := hR.below hb2; replace hB := bthen hB hb2 hB.size; clear k0 k1 k2 k3 k4 kz; obtain ⟨k0, -⟩ := hH.cell 0 _ rfl; obtain ⟨k1, -⟩ := hH.cell 1 _ rfl; obtain ⟨k2, -⟩ := hH.cell 2 _ rfl; obtain ⟨k3, -⟩ := hH.cell 3 _ rfl; obtain ⟨k4, -⟩ := hH.cell 4 _ rfl; have kz := hH.lt)
      | (go_at_call 37; refine (c3.out _).mono ?_; rintro e w3 ⟨rfl, hb3⟩; replace hH := hH.below hb3; replace hR := hR.below hb3; replace hB := bthen hB hb3 hB.size; clear k0 k1 k2 k3 k4 kz; obtain ⟨k0, -⟩ := hH.cell 0 _ rfl; obtain ⟨k1, -⟩ := hH.cell 1 _ rfl; obtain ⟨k2, -⟩ := hH.cell 2 _ rfl; obtain ⟨k3, -⟩ := hH.cell 3 _ rfl; obtain ⟨k4, -⟩ := hH.cell 4 _ rfl; have kz := hH.lt)
      | (refine wpList_store_row rfl 33 _ _ rfl (w.heap.size + 1) _ rfl rfl 33 _ hR (by kernel_rfl) rfl (by simp [Value.oneCell']) ?_))
    try simp only [Exit.inBlock, Exit.then]
    refine bodyPost_ret (results_row rfl _ _ _ _ _ _ rfl rfl (BlockIs.row hR _ rfl) Try.underlying33 rfl (by kernel_rfl)) rfl ?_
    exact ⟨by simp [fixV, badV], below_row hB (by omega) _⟩
set_option maxHeartbeats 1000000 in
theorem reloc_any (k s a : Int) (p m : ByteArray) (off : Int) (there : Bool) (nm : ByteArray) (x1 x2 : Int) (x3 : Bool) (num n : Int) (far : Bool) (w : World) : Calls Try.prog 34 #[holeV k s a p m, .int .i64 off, .agg #[.bool there, .string nm, .int .i64 x1, .int .i64 x2, .bool x3, .int .i64 num], .int .i64 n, .bool far] w (Ret (relV k s off there num n far) w) := by
  have hc := Lib.hid (type_any k s a p m far)
  unfold typeV at hc
  obtain ⟨t, ht⟩ : ∃ t, t = (typeT k s far).1 := ⟨_, rfl⟩
  obtain ⟨er, her⟩ : ∃ er, er = (typeT k s far).2 := ⟨_, rfl⟩
  rw [← ht, ← her] at hc
  have hV : relV k s off there num n far = if er != 0 then badV er else if !there || decide (num < 0) then badV 180 else fixV false 0 true off t num n 0 := by unfold relV; rw [ht, her]
  clear ht her
  obtain ⟨V, hVV⟩ : ∃ V, V = relV k s off there num n far := ⟨_, rfl⟩
  rw [← hVV] at hV ⊢
  clear hVV
  replace hV := Lib.hid hV
  unfold holeV at *
  have hcs : (er != 0) = true ∨ ((er != 0) = false ∧ there = false) ∨ ((er != 0) = false ∧ there = true ∧ decide (num < 0) = true) ∨ ((er != 0) = false ∧ there = true ∧ decide (num < 0) = false) := by
    cases h : (er != 0)
    · cases there
      · exact .inr (.inl ⟨rfl, rfl⟩)
      · cases h1 : decide (num < 0)
        · exact .inr (.inr (.inr ⟨rfl, rfl, rfl⟩))
        · exact .inr (.inr (.inl ⟨rfl, rfl, rfl⟩))
    · exact .inl rfl
  go_enter Try.func34, Try.ntmps34
  go_wp2_with (fail)
  obtain ⟨W0, hW0, hH, hX, hR, hB⟩ := blocks3 w [.int .i64 k, .int .i64 s, .int .i64 a, .string p, .string m] 25 [.bool there, .string nm, .int .i64 x1, .int .i64 x2, .bool x3, .int .i64 num] 74 [.bool false, .int .i64 0, .bool false, .int .i64 0, .int .i64 0, .int .i64 0, .int .i64 0] 33
  rw [← hW0]
  clear hW0
  obtain ⟨k0, -⟩ := hH.cell 0 _ rfl; obtain ⟨k1, -⟩ := hH.cell 1 _ rfl; obtain ⟨k2, -⟩ := hH.cell 2 _ rfl; obtain ⟨k3, -⟩ := hH.cell 3 _ rfl; obtain ⟨k4, -⟩ := hH.cell 4 _ rfl
  have kz := hH.lt
  obtain ⟨y0, -⟩ := hX.cell 0 _ rfl; obtain ⟨y1, -⟩ := hX.cell 1 _ rfl; obtain ⟨y2, -⟩ := hX.cell 2 _ rfl; obtain ⟨y3, -⟩ := hX.cell 3 _ rfl; obtain ⟨y4, -⟩ := hX.cell 4 _ rfl; obtain ⟨y5, -⟩ := hX.cell 5 _ rfl
  have xz := hX.lt
  rcases hcs with b1 | ⟨b1, b2⟩ | ⟨b1, b2, b3⟩ | ⟨b1, b2, b3⟩
  all_goals
    go_wp2_with (first
      | (go_at_call 16; refine (hc.out _).mono ?_; rintro e w1 ⟨rfl, hb1⟩; replace hH := hH.below hb1; replace hX := hX.below hb1; replace hR := hR.below hb1; replace hB := bthen hB hb1 hB.size; clear k0 k1 k2 k3 k4 kz y0 y1 y2 y3 y4 y5 xz; obtain ⟨k0, -⟩ := hH.cell 0 _ rfl; obtain ⟨k1, -⟩ := hH.cell 1 _ rfl; obtain ⟨k2, -⟩ := hH.cell 2 _ rfl; obtain ⟨k3, -⟩ := hH.cell 3 _ rfl; obtain ⟨k4, -⟩ := hH.cell 4 _ rfl; have kz := hH.lt; obtain ⟨y0, -⟩ := hX.cell 0 _ rfl; obtain ⟨y1, -⟩ := hX.cell 1 _ rfl; obtain ⟨y2, -⟩ := hX.cell 2 _ rfl; obtain ⟨y3, -⟩ := hX.cell 3 _ rfl; obtain ⟨y4, -⟩ := hX.cell 4 _ rfl; obtain ⟨y5, -⟩ := hX.cell 5 _ rfl; have xz := hX.lt)
      | (refine wpList_store_row rfl 33 _ _ rfl (w.heap.size + 1 + 1) _ rfl rfl 33 _ hR (by kernel_rfl) rfl (by simp [Value.oneCell']) ?_))
    try simp only [Exit.inBlock, Exit.then]
    refine bodyPost_ret (results_row rfl _ _ _ _ _ _ rfl rfl (BlockIs.row hR _ rfl) Try.underlying33 rfl (by kernel_rfl)) rfl ?_
    exact ⟨by rw [hV.out]; simp [fixV, badV, *], below_row hB (by omega) _⟩
set_option maxHeartbeats 1000000 in
theorem rreloc_any (k s a : Int) (p m : ByteArray) (off : Int) (th : Bool) (x1 x2 : Int) (num n : Int) (far : Bool) (w : World) : Calls Try.prog 39 #[holeV k s a p m, .bool far, .int .i64 off, .agg #[.bool th, .int .i64 num, .int .i64 x1, .int .i64 x2], .int .i64 n] w (Ret (relV k s off true num n far) w) := by
  have hc := Lib.hid (rtype_any k s a p m far)
  unfold typeV at hc
  obtain ⟨t, ht⟩ : ∃ t, t = (typeT k s far).1 := ⟨_, rfl⟩
  obtain ⟨er, her⟩ : ∃ er, er = (typeT k s far).2 := ⟨_, rfl⟩
  rw [← ht, ← her] at hc
  have hV : relV k s off true num n far = if er != 0 then badV er else if !true || decide (num < 0) then badV 180 else fixV false 0 true off t num n 0 := by unfold relV; rw [ht, her]
  clear ht her
  obtain ⟨V, hVV⟩ : ∃ V, V = relV k s off true num n far := ⟨_, rfl⟩
  rw [← hVV] at hV ⊢
  clear hVV
  replace hV := Lib.hid hV
  unfold holeV at *
  have hcs : (er != 0) = true ∨ (er = 0 ∧ decide (num < 0) = true) ∨ (er = 0 ∧ decide (num < 0) = false) := by
    by_cases h : er = 0
    · cases h1 : decide (num < 0)
      · exact .inr (.inr ⟨h, rfl⟩)
      · exact .inr (.inl ⟨h, rfl⟩)
    · exact .inl (by simpa using h)
  go_enter Try.func39, Try.ntmps39
  go_wp2_with (fail)
  obtain ⟨W0, hW0, hH, hX, hR, hB⟩ := blocks3 w [.int .i64 k, .int .i64 s, .int .i64 a, .string p, .string m] 25 [.bool th, .int .i64 num, .int .i64 x1, .int .i64 x2] 83 [.bool false, .int .i64 0, .bool false, .int .i64 0, .int .i64 0, .int .i64 0, .int .i64 0] 33
  rw [← hW0]
  clear hW0
  obtain ⟨k0, -⟩ := hH.cell 0 _ rfl; obtain ⟨k1, -⟩ := hH.cell 1 _ rfl; obtain ⟨k2, -⟩ := hH.cell 2 _ rfl; obtain ⟨k3, -⟩ := hH.cell 3 _ rfl; obtain ⟨k4, -⟩ := hH.cell 4 _ rfl
  have kz := hH.lt
  obtain ⟨y0, -⟩ := hX.cell 0 _ rfl; obtain ⟨y1, -⟩ := hX.cell 1 _ rfl; obtain ⟨y2, -⟩ := hX.cell 2 _ rfl; obtain ⟨y3, -⟩ := hX.cell 3 _ rfl
  have xz := hX.lt
  rcases hcs with b1 | ⟨rfl, b1⟩ | ⟨rfl, b1⟩
  all_goals
    go_wp2_with (first
      | (go_at_call 17; refine (hc.out _).mono ?_; rintro e w1 ⟨rfl, hb1⟩; replace hH := hH.below hb1; replace hX := hX.below hb1; replace hR := hR.below hb1; replace hB := bthen hB hb1 hB.size; clear k0 k1 k2 k3 k4 kz y0 y1 y2 y3 xz; obtain ⟨k0, -⟩ := hH.cell 0 _ rfl; obtain ⟨k1, -⟩ := hH.cell 1 _ rfl; obtain ⟨k2, -⟩ := hH.cell 2 _ rfl; obtain ⟨k3, -⟩ := hH.cell 3 _ rfl; obtain ⟨k4, -⟩ := hH.cell 4 _ rfl; have kz := hH.lt; obtain ⟨y0, -⟩ := hX.cell 0 _ rfl; obtain ⟨y1, -⟩ := hX.cell 1 _ rfl; obtain ⟨y2, -⟩ := hX.cell 2 _ rfl; obtain ⟨y3, -⟩ := hX.cell 3 _ rfl; have xz := hX.lt)
      | (refine wpList_store_row rfl 33 _ _ rfl (w.heap.size + 1 + 1) _ rfl rfl 33 _ hR (by kernel_rfl) rfl (by simp [Value.oneCell']) ?_))
    try simp only [Exit.inBlock, Exit.then]
    refine bodyPost_ret (results_row rfl _ _ _ _ _ _ rfl rfl (BlockIs.row hR _ rfl) Try.underlying33 rfl (by kernel_rfl)) rfl ?_
    exact ⟨by rw [hV.out]; simp [fixV, badV, *], below_row hB (by omega) _⟩
theorem rnear_any (k s a : Int) (p m : ByteArray) (w : World) : Calls Try.prog 13 #[holeV k s a p m] w (Ret (.bool (decide (k ≤ 6))) w) := by
  unfold holeV
  go_enter Try.func13, Try.ntmps13
  go_wp2
  go_returns
  exact ⟨by simp, bnew _ _⟩
theorem rdata_any (k s a : Int) (p m : ByteArray) (w : World) : Calls Try.prog 40 #[holeV k s a p m] w (Ret (.bool (decide (10 ≤ k))) w) := by
  unfold holeV
  go_enter Try.func40, Try.ntmps40
  go_wp2
  go_returns
  exact ⟨by simp, bnew _ _⟩
end Go.Proofs.Ytddfafapahnaaaa
