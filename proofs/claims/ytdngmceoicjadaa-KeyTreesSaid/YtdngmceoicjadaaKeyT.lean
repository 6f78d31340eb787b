/- KeyTrees: the walk. -/
import Derived.Test.YtdngmceoicjadaaKeyL
import Derived.Laws.AppendOwn
import Derived.OwnWalk
namespace Go.Proofs.Ytdngmceoicjadaa.KeyT
open Go.RowKit Num KeyM KeyW KeyL Frm
/-- The numbers of the forks. -/
def nums (zs : List Int) (j : Nat) : List Int := (List.range j).map fun i => 1 + zs.getD i 0 % 1000
theorem nums_succ (zs : List Int) (j : Nat) : nums zs (j + 1) = nums zs j ++ [1 + zs.getD j 0 % 1000] := by
  unfold nums; rw [List.range_succ, List.map_append]; rfl
theorem nums_len (zs : List Int) (j : Nat) : (nums zs j).length = j := by simp [nums]
theorem nums_get (zs : List Int) (j i : Nat) (h : i < j) : (nums zs j)[i]? = some (1 + zs.getD i 0 % 1000) := by simp [nums, h]
theorem under_the_root {c : Int} (h : chk c = true) (h0 : 0 < dep c) : under c 1125899906842624 = true := by
  obtain ⟨r1, r2⟩ := root_ok
  have oc := ok_of_chk h
  have oroot := ok_of_chk r1
  have u := (up_ok oc).1
  have v := (up_ok oroot).1
  unfold under; rw [h, r1, r2, u, v]; simpa using h0
theorem own_later {base : Nat} {e : TypeId} {size : Nat} {v : Value} {n : Nat} {xs : List Value} {w w' : World} (h : w.ownsRow base e size v n xs) (hB : Bl w w') : w'.ownsRow base e size v n xs := by
  obtain ⟨h1, h2⟩ := h
  refine ⟨h1, ?_⟩
  rcases h2 with h2 | ⟨g, cap, cur, hv, hg, hh, r⟩
  · exact Or.inl h2
  · refine Or.inr ⟨g, cap, cur, hv, hg, ?_, r⟩
    have hlt : g < w.heap.size := by
      rcases Nat.lt_or_ge g w.heap.size with k | k
      · exact k
      · simp [Array.getElem?_eq_none k] at hh
    rw [hB.block g hlt]; exact hh
theorem info3 : (Try.prog.info? 3).map (fun i => (i.zero, i.size, i.bytes)) = some (some (.int .i64 0), 1, 8) := by kernel_rfl
/-- The slice after so many. -/
theorem own_shape {base : Nat} {e : TypeId} {v : Value} {n : Nat} {xs : List Value} {w : World} (h : w.ownsRow base e 1 v n xs) : ∃ a cap, v = .slice a n cap ∧ (0 < n → ∃ g, a = some ⟨g, 0, none⟩) := by
  obtain ⟨h1, h2⟩ := h
  rcases h2 with ⟨rfl, rfl⟩ | ⟨g, cap, cur, hv, _⟩
  · exact ⟨none, 0, rfl, fun h => by omega⟩
  · exact ⟨some ⟨g, 0, none⟩, cap, hv, fun _ => ⟨g, rfl⟩⟩
set_option maxRecDepth 100000 in
set_option maxHeartbeats 4000000 in
theorem walk (a : Option Addr) (la ca : Nat) (za : List Int) (w : World) (ha : IsRow .i64 w a la ca za) (hsz : la * 8 ≤ 140737488351232) :
    Calls Try.prog 12 #[.slice a la ca] w fun e w' => e = .returned (.bool true) ∧ Bl w w' := by
  obtain ⟨i0, hi, hz0, hz1, hz2⟩ := info_parts info3
  go_enter Try.func12, Try.ntmps12
  go_wp2_with fail
  go_loopw [3, 4, 5] (fun k up i wr => ∃ (j : Nat), j ≤ la ∧ j ≤ 5 ∧ k = .int .i64 (mkI za j) ∧ i = .int .i64 j ∧ wr.ownsRow w.heap.size 3 1 up j ((nums za j).map (Value.int .i64)) ∧ Bl w wr) (fun _ _ i _ => 6 - (intOf i).toNat)
  case atStart => exact ⟨0, by omega, by omega, rfl, rfl, World.ownsRow_nil _ _ _ _, Bl.refl _⟩
  case round =>
    obtain ⟨j, hj, hj5, rfl, rfl, hown, hB⟩ := hrel
    by_cases hlt : j < la ∧ j < 5
    · obtain ⟨hlt, hlt5⟩ := hlt
      obtain ⟨bb, off, rfl, r1, r2, r3, r4⟩ := row_at (row_later ha hB) (by omega)
      have hcj := r4 j (by omega)
      obtain ⟨m1, m2⟩ := mkI_ok za j (by omega)
      obtain ⟨n1, n2⟩ := mkI_ok za (j + 1) (by omega)
      have u1 := Int.emod_nonneg (za.getD j 0) (b := 1000) (by decide)
      have u2 := Int.emod_lt_of_pos (za.getD j 0) (b := 1000) (by decide)
      have hC := fun w => child_yes (mkI za j) (1 + za.getD j 0 % 1000) w m1 (by omega) (by omega) (by omega)
      have bo := born (n := 1 + za.getD j 0 % 1000) m1 (by omega) (by omega) (by omega)
      obtain ⟨b1, b2, b3, b4, b5, b6, b7, b8⟩ := bo
      have b9 := under_the_root b1 (by omega)
      have hE : child (mkI za j) (1 + za.getD j 0 % 1000) = mkI za (j + 1) := rfl
      have hN := Lib.hid (nums_succ za j)
      rw [hE] at hC b1 b2 b3 b4 b5 b6 b7 b8 b9
      have b10 : dep (mkI za (j + 1)) = (j : Int) + 1 := by rw [n2]; omega
      clear b2 b3 b4 b6 m1 m2 n1 n2 hE r4
      generalize za.getD j 0 = z at *
      generalize hk1 : mkI za j = k at *
      have HK1 := Lib.hid hk1
      generalize hk2 : mkI za (j + 1) = c at *
      have HK2 := Lib.hid hk2
      clear hk1 hk2
      go_wp2_with (first
        | (go_at_call 19; refine (Val.place_any _ _ _ (by omega) (by omega)).mono ?_; rintro e w4 ⟨rfl, rfl⟩)
        | (go_at_call 31; refine (hC _).mono ?_; rintro e w5 ⟨rfl, hb5⟩)
        | (go_at_call 36; refine (KeyW.check_any _ _).mono ?_; rintro e w4 ⟨rfl, hb4⟩)
        | (go_at_call 38; refine (KeyW.depth_any _ _).mono ?_; rintro e w4 ⟨rfl, hb4⟩)
        | (go_at_call 40; refine (KeyW.under_any _ _ _).mono ?_; rintro e w4 ⟨rfl, hb4⟩)
        | (at_builtin; refine wpList_append_own _ rfl _ _ 29 rfl w.heap.size 3 i0 (.int .i64 0) 1 8 Try.underlying29 hi hz0 hz1 hz2 rfl (by decide) _ _ _ rfl ((own_later hown (show Bl wr w4 from by repeat (first | exact Bl.refl _ | assumption | apply Bl.drewN | apply Bl.alloc | refine Bl.trans ?_ (by assumption)))).alloc _) ⟨w4.heap.size, 0, none⟩ 1 1 [.int .i64 (1 + z % 1000)] rfl rfl ?c1 ?c2 ?c3 ?c4 ?c5 ?_))
      case c1 => intro i u hi; match i, hi with | 0, hi => simp at hi; subst hi; simp [Addr.add]
      case c2 => intro u hu; simp at hu; subst hu; rfl
      case c3 => unfold maxLen; omega
      case c4 => omega
      case c5 =>
        have h : Bl w w4 := by repeat (first | exact Bl.refl _ | assumption | apply Bl.drewN | apply Bl.alloc | refine Bl.trans ?_ (by assumption))
        have := h.size
        simp; omega
      intro v' w9 hown9 hg _
      have h4 : Bl w w4 := by repeat (first | exact Bl.refl _ | assumption | apply Bl.drewN | apply Bl.alloc | refine Bl.trans ?_ (by assumption))
      have h4s := h4.size
      have hB9 : Bl w w9 := Below.grown (show Below w.heap.size w _ from h4.alloc _) hg (by simp; omega) (fun k hk => (World.ownsRow.lt hown k hk).1)
      clear hg
      go_wp2_with fail
      go_roundw
      case rel => exact ⟨j + 1, by omega, by omega, by rw [HK2.out], by go_num, by rw [hN.out, List.map_append]; exact hown9, hB9⟩
      case measure => simp [intOf]; omega
    · obtain ⟨ao, cp, rfl, hg⟩ := own_shape hown
      by_cases hla : j < la
      · have h5 : 5 ≤ j := by omega
        obtain ⟨bb, off, rfl, r1, r2, r3, r4⟩ := row_at (row_later ha hB) (by omega)
        have hcj := r4 j (by omega)
        have u1 := Int.emod_nonneg (za.getD j 0) (b := 1000) (by decide)
        have u2 := Int.emod_lt_of_pos (za.getD j 0) (b := 1000) (by decide)
        generalize za.getD j 0 = z at *
        have hd := (mkI_ok za j (by omega)).2
        have hC := fun w => child_no (mkI za j) (1 + z % 1000) w (by unfold can; rw [hd]; simp; omega)
        clear hd r4
        go_wp2_with (first
          | (go_at_call 19; refine (Val.place_any _ _ _ (by omega) (by omega)).mono ?_; rintro e w4 ⟨rfl, rfl⟩)
          | (go_at_call 31; refine (hC _).mono ?_; rintro e w1 ⟨rfl, hb5⟩))
        have hown1 := own_later hown hb5
        have hB1 := hB.trans hb5
        clear hown hB hb5 hcj
        obtain ⟨wo, hwo⟩ : ∃ wo, wo = wr := ⟨_, rfl⟩
        clear hwo
        go_loopw [3, 9] (fun k i w2 => ∃ (m : Nat) (I : Int), m ≤ j ∧ I + 1 = m ∧ i = .int .i64 I ∧ k = .int .i64 (mkI za m) ∧ Bl w1 w2) (fun _ i _ => (intOf i + 1).toNat)
        case atStart => exact ⟨j, (j : Int) - 1, by omega, by omega, rfl, rfl, Bl.refl _⟩
        case round =>
          obtain ⟨m, I, hm, hI, rfl, rfl, hB2⟩ := hrel
          by_cases hm0 : m = 0
          · subst hm0
            obtain rfl : I = -1 := by omega
            have hP := fun w => parent_no 1125899906842624 w root_ok.2
            have e0 : mkI za 0 = 1125899906842624 := rfl
            have e1 : under 1125899906842624 1125899906842624 = false := Ref6.under_self _
            rw [e0]
            clear e0 hown1
            go_wp2_with (first
              | (go_at_call 34; refine (hP _).mono ?_; rintro e w4 ⟨rfl, hb4⟩)
              | (go_at_call 40; refine (KeyW.under_any _ _ _).mono ?_; rintro e w4 ⟨rfl, hb4⟩)
              | (go_at_call 29; refine (KeyAll.awake_any _).mono ?_; rintro e w7 ⟨rfl, hb7⟩))
            go_ret
            exact ⟨rfl, by repeat (first | exact Bl.refl _ | assumption | apply Bl.drewN | apply Bl.alloc | refine Bl.trans ?_ (by assumption))⟩
          · obtain ⟨q, rfl⟩ : ∃ q, m = q + 1 := ⟨m - 1, by omega⟩
            obtain rfl : I = q := by omega
            obtain ⟨g, rfl⟩ := hg (by omega)
            obtain ⟨m1, m2⟩ := mkI_ok za q (by omega)
            obtain ⟨n1, n2⟩ := mkI_ok za (q + 1) (by omega)
            have u1 := Int.emod_nonneg (za.getD q 0) (b := 1000) (by decide)
            have u2 := Int.emod_lt_of_pos (za.getD q 0) (b := 1000) (by decide)
            have bo := born (n := 1 + za.getD q 0 % 1000) m1 (by omega) (by omega) (by omega)
            have b3 := bo.par
            have b4 := bo.num
            have hE : child (mkI za q) (1 + za.getD q 0 % 1000) = mkI za (q + 1) := rfl
            rw [hE] at b3 b4
            have hP := fun w => parent_yes (mkI za (q + 1)) w (by rw [n2]; omega)
            rw [b3, b4] at hP
            have hcell : ∀ w3, Bl wr w3 → w3.cell? ⟨g, q, none⟩ = some (.int .i64 (1 + za.getD q 0 % 1000)) := by
              intro w3 hb3
              have h := (own_later hown1 (hB2.trans hb3)).cellAt q (by omega)
              rw [List.getElem?_map, nums_get za j q (by omega)] at h
              exact h
            clear hown1 m1 m2 n1 n2 b3 b4 bo hE
            generalize 1 + za.getD q 0 % 1000 = z at *
            have hq : ((q + 1 : Nat) : Int) = (q : Int) + 1 := by omega
            go_wp2_with (first
              | (go_at_call 34; refine (hP _).mono ?_; rintro e w4 ⟨rfl, hb4⟩; have hcell4 := hcell _ hb4))
            go_roundw
            case rel => exact ⟨q, (q : Int) - 1, by omega, by omega, by go_num, rfl, by repeat (first | exact Bl.refl _ | assumption | apply Bl.drewN | apply Bl.alloc | refine Bl.trans ?_ (by assumption))⟩
            case measure => simp [intOf]
      · go_wp2_with fail
        obtain ⟨w1, hw1⟩ : ∃ w1, w1 = wr := ⟨_, rfl⟩
        have hown1 := hown
        have hB1 := hB
        rw [← hw1] at hown1 hB1
        subst hw1
        clear hown hB
        go_loopw [3, 9] (fun k i w2 => ∃ (m : Nat) (I : Int), m ≤ j ∧ I + 1 = m ∧ i = .int .i64 I ∧ k = .int .i64 (mkI za m) ∧ Bl w1 w2) (fun _ i _ => (intOf i + 1).toNat)
        case atStart => exact ⟨j, (j : Int) - 1, by omega, by omega, rfl, rfl, Bl.refl _⟩
        case round =>
          obtain ⟨m, I, hm, hI, rfl, rfl, hB2⟩ := hrel
          by_cases hm0 : m = 0
          · subst hm0
            obtain rfl : I = -1 := by omega
            have hP := fun w => parent_no 1125899906842624 w root_ok.2
            have e0 : mkI za 0 = 1125899906842624 := rfl
            have e1 : under 1125899906842624 1125899906842624 = false := Ref6.under_self _
            rw [e0]
            clear e0 hown1
            go_wp2_with (first
              | (go_at_call 34; refine (hP _).mono ?_; rintro e w4 ⟨rfl, hb4⟩)
              | (go_at_call 40; refine (KeyW.under_any _ _ _).mono ?_; rintro e w4 ⟨rfl, hb4⟩)
              | (go_at_call 29; refine (KeyAll.awake_any _).mono ?_; rintro e w7 ⟨rfl, hb7⟩))
            go_ret
            exact ⟨rfl, by repeat (first | exact Bl.refl _ | assumption | apply Bl.drewN | apply Bl.alloc | refine Bl.trans ?_ (by assumption))⟩
          · obtain ⟨q, rfl⟩ : ∃ q, m = q + 1 := ⟨m - 1, by omega⟩
            obtain rfl : I = q := by omega
            obtain ⟨g, rfl⟩ := hg (by omega)
            obtain ⟨m1, m2⟩ := mkI_ok za q (by omega)
            obtain ⟨n1, n2⟩ := mkI_ok za (q + 1) (by omega)
            have u1 := Int.emod_nonneg (za.getD q 0) (b := 1000) (by decide)
            have u2 := Int.emod_lt_of_pos (za.getD q 0) (b := 1000) (by decide)
            have bo := born (n := 1 + za.getD q 0 % 1000) m1 (by omega) (by omega) (by omega)
            have b3 := bo.par
            have b4 := bo.num
            have hE : child (mkI za q) (1 + za.getD q 0 % 1000) = mkI za (q + 1) := rfl
            rw [hE] at b3 b4
            have hP := fun w => parent_yes (mkI za (q + 1)) w (by rw [n2]; omega)
            rw [b3, b4] at hP
            have hcell : ∀ w3, Bl wr w3 → w3.cell? ⟨g, q, none⟩ = some (.int .i64 (1 + za.getD q 0 % 1000)) := by
              intro w3 hb3
              have h := (own_later hown1 (hB2.trans hb3)).cellAt q (by omega)
              rw [List.getElem?_map, nums_get za j q (by omega)] at h
              exact h
            clear hown1 m1 m2 n1 n2 b3 b4 bo hE
            generalize 1 + za.getD q 0 % 1000 = z at *
            have hq : ((q + 1 : Nat) : Int) = (q : Int) + 1 := by omega
            go_wp2_with (first
              | (go_at_call 34; refine (hP _).mono ?_; rintro e w4 ⟨rfl, hb4⟩; have hcell4 := hcell _ hb4))
            go_roundw
            case rel => exact ⟨q, (q : Int) - 1, by omega, by omega, by go_num, rfl, by repeat (first | exact Bl.refl _ | assumption | apply Bl.drewN | apply Bl.alloc | refine Bl.trans ?_ (by assumption))⟩
            case measure => simp [intOf]
end Go.Proofs.Ytdngmceoicjadaa.KeyT
