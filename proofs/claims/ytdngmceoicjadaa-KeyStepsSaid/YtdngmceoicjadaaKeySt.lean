/- KeySteps: the walk. -/
import Derived.Test.YtdngmceoicjadaaKeyL
import Derived.Test.YtdngmceoicjadaaKeyS
namespace Go.Proofs.Ytdngmceoicjadaa.KeySt
open Go.RowKit Num KeyM KeyW KeyL Frm

/-- What holds of two forks' forks, so many levels down. -/
structure Two (k x y p q : Int) (j : Nat) : Prop where
  cp : chk p = true
  cq : chk q = true
  dp : dep p = dep k + 1 + j
  dq : dep q = dep k + 1 + j
  pp : p / up (dep k + 1) = x / up (dep k + 1)
  pq : q / up (dep k + 1) = y / up (dep k + 1)
  rp : rank p ≤ rank x
  rq : rank q ≤ rank y

theorem two_step {k x y p q n : Int} {j : Nat} (h : Two k x y p q j) (h0 : 1 ≤ n) (h1 : n ≤ 1000) (h5 : dep k + 1 + j < 5) (hk : 0 ≤ dep k) : Two k x y (child p n) (child q n) (j + 1) ∧ rank (child p n) < rank x ∧ rank (child q n) < rank y := by
  have bp := born (n := n) h.cp h0 h1 (by rw [h.dp]; omega)
  have bq := born (n := n) h.cq h0 h1 (by rw [h.dq]; omega)
  have e1 := child_pre (D := dep k + 1) h.cp h0 h1 (by rw [h.dp]; omega) (by omega) (by rw [h.dp]; omega)
  have e2 := child_pre (D := dep k + 1) h.cq h0 h1 (by rw [h.dq]; omega) (by omega) (by rw [h.dq]; omega)
  have r1 := bp.rank
  have r2 := bq.rank
  have r3 := h.rp
  have r4 := h.rq
  refine ⟨⟨bp.chk, bq.chk, by rw [bp.dep, h.dp]; omega, by rw [bq.dep, h.dq]; omega, e1.trans h.pp, e2.trans h.pq, by omega, by omega⟩, by omega, by omega⟩

/-- What the round asks. -/
theorem two_asks {k x y p q : Int} {j : Nat} (hk : 0 ≤ dep k) (hx : chk x = true) (hy : chk y = true) (dx : dep x = dep k + 1) (dy : dep y = dep k + 1) (hxy : x / up (dep k + 1) < y / up (dep k + 1)) (hyk : rank y < rank k) (ck : chk k = true)
    (h : Two k x y p q j) (g1 : rank p < rank x) (g2 : rank q < rank y) :
    KeyM.ahead p x = true ∧ KeyM.ahead p q = true ∧ KeyM.ahead q p = false ∧ KeyM.ahead p y = true ∧ KeyM.ahead x q = true ∧ KeyM.ahead q y = true ∧ KeyM.ahead q k = true := by
  have a1 : rank p < rank q := prefix_lt (D := dep k + 1) h.cp h.cq (by omega) (by rw [h.dp]; omega) (by rw [h.dq]; omega) (by rw [h.pp, h.pq]; exact hxy)
  have a2 : rank p < rank y := prefix_lt (D := dep k + 1) h.cp hy (by omega) (by rw [h.dp]; omega) (by omega) (by rw [h.pp]; exact hxy)
  have a3 : rank x < rank q := prefix_lt (D := dep k + 1) hx h.cq (by omega) (by omega) (by rw [h.dq]; omega) (by rw [h.pq]; exact hxy)
  rw [ahead_of h.cp hx, ahead_of h.cp h.cq, ahead_of h.cq h.cp, ahead_of h.cp hy, ahead_of hx h.cq, ahead_of h.cq hy, ahead_of h.cq ck]
  simp only [decide_eq_true_iff, decide_eq_false_iff_not]
  omega
set_option maxRecDepth 100000 in
set_option maxHeartbeats 2000000 in
theorem long (a b : Option Addr) (la lb ca cb : Nat) (m n : Int) (w : World) (h : 2 < la ∨ (la ≤ 2 ∧ 2 < lb)) :
    Calls Try.prog 9 #[.slice a la ca, .int .i64 m, .int .i64 n, .slice b lb cb] w fun e w' => e = .returned (.bool true) ∧ Bl w w' := by
  rcases h with h | ⟨h, h'⟩
  all_goals
    go_enter Try.func9, Try.ntmps9
    go_wp2_with (go_at_call 29; refine (KeyAll.awake_any _).mono ?_; rintro e w7 ⟨rfl, hb7⟩)
    go_ret
    exact ⟨rfl, by assumption⟩
set_option maxRecDepth 100000 in
set_option maxHeartbeats 2000000 in
theorem short (a b : Option Addr) (la lb ca cb : Nat) (zb : List Int) (m n k : Int) (w : World) (h1 : la ≤ 2) (h2 : lb ≤ 2) (ck : chk k = true) (dk : dep k ≤ 2)
    (hk : ∀ w', Bl w w' → Calls Try.prog 30 #[.slice a la ca] w' fun e w'' => e = .returned (.int .i64 k) ∧ Bl w' w'') (hrow : IsRow .i64 w b lb cb zb) :
    Calls Try.prog 9 #[.slice a la ca, .int .i64 m, .int .i64 n, .slice b lb cb] w fun e w' => e = .returned (.bool true) ∧ Bl w w' := by
  have l1 := Int.emod_nonneg m (b := 400) (by decide)
  have l2 := Int.emod_lt_of_pos m (b := 400) (by decide)
  have l3 := Int.emod_nonneg n (b := 400) (by decide)
  have l4 := Int.emod_lt_of_pos n (b := 400) (by decide)
  have d0 := dep_lo k
  have hx := fun w => child_yes k (1 + m % 400) w ck (by omega) (by omega) (by omega)
  have hy := fun w => child_yes k (1 + m % 400 + 1 + n % 400) w ck (by omega) (by omega) (by omega)
  obtain ⟨s1, s2, s3, s4, s5, s6, s7, s8⟩ := born (n := 1 + m % 400) ck (by omega) (by omega) (by omega)
  obtain ⟨t1, t2, t3, t4, t5, t6, t7, t8⟩ := born (n := 1 + m % 400 + 1 + n % 400) ck (by omega) (by omega) (by omega)
  have R := child_top (n := 1 + m % 400) (m := 1 + m % 400 + 1 + n % 400) ck (by omega) (by omega) (by omega) (by omega)
  generalize child k (1 + m % 400) = x at *
  generalize child k (1 + m % 400 + 1 + n % 400) = y at *
  have H0 := Lib.hid (Two.mk (k := k) (x := x) (y := y) (p := x) (q := y) (j := 0) s1 t1 (by rw [s2]; simp) (by rw [t2]; simp) rfl rfl (Int.le_refl _) (Int.le_refl _))
  have HA := Lib.hid fun p q j => two_asks (p := p) (q := q) (j := j) d0 s1 t1 s2 t2 R t6 ck
  have HF : Hid (KeyM.ahead x y = true) := by
    show _ = _
    rw [ahead_of s1 t1]; simpa using prefix_lt (D := dep k + 1) s1 t1 (by omega) (by omega) (by omega) R
  clear R s1 s2 s3 s4 s5 s6 s7 s8 t1 t2 t3 t4 t5 t6 t7 t8
  go_enter Try.func9, Try.ntmps9
  go_wp2_with (first
      | (go_at_call 30; with_reducible refine (hk _ ?_).mono ?_; (exact Bl.refl _); rintro e w1 ⟨rfl, hb1⟩)
      | (go_at_call 19; refine (Val.place_any _ _ _ (by omega) (by omega)).mono ?_; rintro e w4 ⟨rfl, rfl⟩)
      | (go_at_call 31; first | (with_reducible refine (hx _).mono ?_; rintro e w5 ⟨rfl, hb5⟩) | (with_reducible refine (hy _).mono ?_; rintro e w6 ⟨rfl, hb6⟩)))
  have hb6 := Lib.hid (show Bl w w6 from by repeat (first | exact Bl.refl _ | assumption | apply Bl.drewN | apply Bl.alloc | refine Bl.trans ?_ (by assumption)))
  go_loopw [16, 17, 18] (fun p q i wr => ∃ (P Q : Int) (j : Nat), j ≤ lb ∧ p = .int .i64 P ∧ q = .int .i64 Q ∧ i = .int .i64 j ∧ Hid (Two k x y P Q j) ∧ Bl w wr) (fun _ _ i _ => lb - (intOf i).toNat)
  case atStart => exact ⟨x, y, 0, by omega, rfl, rfl, rfl, H0, hb6.out⟩
  case round =>
    obtain ⟨P, Q, j, hj, rfl, rfl, rfl, HT, hB⟩ := hrel
    by_cases hlt : j < lb
    · obtain ⟨bb, off, rfl, r1, r2, r3, r4⟩ := row_at (row_later hrow hB) (by omega)
      have hcj := r4 j (by omega)
      generalize zb.getD j 0 = z at hcj
      have u1 := Int.emod_nonneg z (b := 900) (by decide)
      have u2 := Int.emod_lt_of_pos z (b := 900) (by decide)
      obtain ⟨T, g1, g2⟩ := two_step (n := 1 + z % 900) HT.out (by omega) (by omega) (by omega) d0
      have hP := fun w => child_yes P (1 + z % 900) w HT.out.cp (by rw [HT.out.dp]; omega) (by omega) (by omega)
      have hQ := fun w => child_yes Q (1 + z % 900) w HT.out.cq (by rw [HT.out.dq]; omega) (by omega) (by omega)
      generalize child P (1 + z % 900) = P' at *
      generalize child Q (1 + z % 900) = Q' at *
      obtain ⟨c1, c2, c3, c4, c5, c6, c7⟩ := HA.out P' Q' (j + 1) T g1 g2
      have HT' := Lib.hid T
      clear T g1 g2 r4 HT H0
      go_wp2_with (first
        | (go_at_call 19; refine (Val.place_any _ _ _ (by omega) (by omega)).mono ?_; rintro e w4 ⟨rfl, rfl⟩)
        | (go_at_call 32; refine (KeyW.ahead_any _ _ _).mono ?_; rintro e w4 ⟨rfl, hb4⟩)
        | (go_at_call 31; first | (with_reducible refine (hP _).mono ?_; rintro e w5 ⟨rfl, hb5⟩; have hcj5 := bl_cell hb5 hcj) | (with_reducible refine (hQ _).mono ?_; rintro e w6 ⟨rfl, hb6⟩)))
      go_roundw
      case rel => exact ⟨P', Q', j + 1, by omega, rfl, rfl, by go_num, HT', by repeat (first | exact Bl.refl _ | assumption | apply Bl.drewN | apply Bl.alloc | refine Bl.trans ?_ (by assumption))⟩
      case measure => simp [intOf]; omega
    · have e1 := HF.out
      clear HF HT H0 HA
      go_wp2_with (first
        | (go_at_call 32; refine (KeyW.ahead_any _ _ _).mono ?_; rintro e w4 ⟨rfl, hb4⟩)
        | (go_at_call 29; refine (KeyAll.awake_any _).mono ?_; rintro e w7 ⟨rfl, hb7⟩))
      go_ret
      exact ⟨rfl, by repeat (first | exact Bl.refl _ | assumption | apply Bl.drewN | apply Bl.alloc | refine Bl.trans ?_ (by assumption))⟩
/-- KeySteps, at any rows. -/
theorem walk (a : Option Addr) (la ca : Nat) (za : List Int) (m n : Int) (b : Option Addr) (lb cb : Nat) (zb : List Int) (w : World)
    (ha : IsRow .i64 w a la ca za) (_ : la * 8 ≤ 140737488351232) (_ : (Lit.int .i64 m).wf = true) (_ : (Lit.int .i64 n).wf = true) (hb : IsRow .i64 w b lb cb zb) (_ : lb * 8 ≤ 140737488351232) :
    Calls Try.prog 9 #[.slice a la ca, .int .i64 m, .int .i64 n, .slice b lb cb] w fun e w' => e = .returned (.bool true) ∧ Bl w w' := by
  by_cases h : la ≤ 2 ∧ lb ≤ 2
  · obtain ⟨h1, h2⟩ := mkI_ok za (min la 5) (by omega)
    exact short a b la lb ca cb zb m n _ w h.1 h.2 h1 (by omega) (fun w' hb' => make_any a la ca za w' (row_later ha hb')) hb
  · exact long a b la lb ca cb m n w (by omega)
end Go.Proofs.Ytdngmceoicjadaa.KeySt
