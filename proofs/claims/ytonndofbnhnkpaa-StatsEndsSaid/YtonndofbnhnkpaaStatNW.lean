/- StatsEnds: the walk. -/
import Derived.Test.YtonndofbnhnkpaaStatN
namespace Go.Proofs.Ytonndofbnhnkpaa.StatN
open Go.RowKit Num KeyM KeyW StatM StatW StatO KeyT StatE StatP Frm KeyL Plc
set_option maxRecDepth 100000 in
set_option maxHeartbeats 2000000 in
theorem walk (a : Option Addr) (la ca : Nat) (zs : List Int) (w : World) (ha : IsRow .i64 w a la ca zs) (hsz : la * 8 ≤ 140737488351232) :
    Calls Try.prog 6 #[.slice a la ca] w fun e w' => e = .returned (.bool true) ∧ Bl w w' := by
  obtain ⟨i0, hi, hz0, hz1, hz2⟩ := info_parts info44
  have hr1 : chk 1125899906842624 = true := by decide +kernel
  have hr2 : dep 1125899906842624 < 5 := by decide +kernel
  go_enter Try.func6, Try.ntmps6
  go_wp2_with fail
  go_loopw [3, 4] (fun l i wr => ∃ (j : Nat), j ≤ la ∧ j ≤ 40 ∧ i = .int .i64 j ∧ wr.ownsRow w.heap.size 44 4 l j (ecs (evs zs j)) ∧ Bl w wr) (fun _ i _ => 41 - (intOf i).toNat)
  case atStart => exact ⟨0, by omega, by omega, rfl, World.ownsRow_nil _ _ _ _, Bl.refl _⟩
  case round =>
    obtain ⟨j, hj, hj5, rfl, hown, hB⟩ := hrel
    by_cases hlt : j < la ∧ j < 40
    · obtain ⟨hlt, hlt5⟩ := hlt
      obtain ⟨bb, off, rfl, r1, r2, r3, r4⟩ := row_at (row_later ha hB) (by omega)
      have hcj := r4 j (by omega)
      have hwf : (Lit.int .i64 (zs.getD j 0)).wf = true := by
        rcases ha with ⟨_, h, _⟩ | ⟨x, _, _, _, h3, _, h5⟩
        · omega
        · refine h5 _ ?_
          rw [List.getD_eq_getElem?_getD, List.getElem?_eq_getElem (by omega)]
          exact List.getElem_mem _
      have hS := evs_snoc zs j
      generalize zs.getD j 0 = z at *
      have hP := fun w => place_any z 1048576 w hwf (by decide) (by decide)
      have u1 := Int.emod_nonneg z (b := 1048576) (by decide)
      have u2 := Int.emod_lt_of_pos z (b := 1048576) (by decide)
      generalize z % 1048576 = v at *
      have t1 := td v 3 u1 (by decide)
      have t2 := td v 15 u1 (by decide)
      have t3 := tm v 3 u1 (by decide)
      have t4 := tm (v.tdiv 3) 5 t1.1 (by decide)
      have t5 := tm (v.tdiv 15) 4 t2.1 (by decide)
      have hC := fun w => Ref6.child_yes 1125899906842624 (1 + v.tdiv 3 % 5) w hr1 hr2 (by omega) (by omega)
      have HS := Lib.hid hS
      clear hS r4 ha
      go_wp2_with (first
        | (go_at_call 26; refine (hP _).mono ?_; rintro x w1 ⟨rfl, rfl⟩)
        | (go_at_call 27; with_reducible refine (hC _).mono ?_; rintro x w1 ⟨rfl, rfl⟩)
        | (at_builtin; refine wpList_append_own _ rfl _ _ 22 rfl w.heap.size 44 i0 _ 4 32 Try.underlying22 hi hz0 hz1 hz2 rfl (by decide) _ _ _ rfl (hown.alloc _) ⟨wr.heap.size, 0, none⟩ 1 1 (ec (evOf j v)) rfl rfl ?c1 ?c2 ?c3 ?c4 ?c5 ?_))
      case c1 => exact World.news_of_block (cs := #[.int .i64 (evOf j v).kind, .int .i64 (evOf j v).key, .int .i64 (evOf j v).how, .int .i64 (evOf j v).val]) (t := 44) (fr := (0, 0)) (heap_alloc_new wr _)
      case c2 =>
        intro u hu
        simp [ec] at hu
        rcases hu with rfl | rfl | rfl | rfl <;> rfl
      case c3 => unfold maxLen; omega
      case c4 => omega
      case c5 => have := hB.size; simp; omega
      intro v' w9 hown9 hgr _
      have hsz9 := hB.size
      have hB9 : Bl w w9 := Below.grown (show Below w.heap.size w _ from hB.alloc _) hgr (by simp; omega) (fun k hk => (World.ownsRow.lt hown k hk).1)
      have hx9 : ecs (evs zs j) ++ ec (evOf j v) = ecs (evs zs (j + 1)) := by rw [HS.out]; unfold ecs; rw [List.flatMap_append]; simp
      rw [hx9] at hown9
      clear hgr hx9 hown hB
      go_wp2_with fail
      go_roundw
      case rel => exact ⟨j + 1, by omega, by omega, by go_num, hown9, hB9⟩
      case measure => simp [intOf]; omega
    · have hlen := evs_len zs j
      have hF := ends_flat keys_sorted (evs zs j) (evs_keys zs j)
      have hget : ∀ i, i < j → ∃ e, (evs zs j)[i]? = some e ∧ e.val = i := fun i hi => ⟨_, evs_get zs j i hi, rfl⟩
      generalize evs zs j = es at *
      obtain ⟨A, cp, rfl, hrd, hg⟩ := rd_own hlen hown
      have hE := ends_loop A cp es wr hrd (by omega)
      rw [hlen, hF] at hE
      have HF := Lib.hid hF
      have HL := Lib.hid hlen
      clear hF hrd ha
      go_wp2_with (first
        | (go_at_call 24; with_reducible refine hE.mono ?_; rintro x w1 ⟨r, rfl, hr, hb1⟩; obtain ⟨R, cr, rfl, hR⟩ := own_shape5 hr))
      all_goals (
        go_loopw [9, 10] (fun p k wq => ∃ q : Nat, q ≤ 5 ∧ k = .int .i64 (1 + (q : Int)) ∧ p = .int .i64 ((flat (keys.take q) es).length : Int) ∧ Bl w1 wq) (fun _ k _ => 6 - (intOf k).toNat)
        case atStart => exact ⟨0, by omega, rfl, rfl, Bl.refl _⟩
        case round =>
          obtain ⟨q, hq, rfl, rfl, hBq⟩ := hrel
          by_cases hq5 : q < 5
          · have hkey := keys_get q hq5
            have hC := fun w => Ref6.child_yes 1125899906842624 (1 + (q : Int)) w hr1 hr2 (by omega) (by omega)
            obtain ⟨c, hc⟩ : ∃ c, child 1125899906842624 (1 + (q : Int)) = c := ⟨_, rfl⟩
            rw [hc] at hkey hC
            have HN := Lib.hid (flat_next (es := es) hkey)
            clear hc
            go_wp2_with (first
              | (go_at_call 27; with_reducible refine (hC _).mono ?_; rintro x w3 ⟨rfl, rfl⟩))
            go_loopw [9, 13] (fun p i wq => ∃ k : Nat, k ≤ j ∧ i = .int .i64 k ∧ p = .int .i64 (((flat (keys.take q) es).length + (grp c (es.take k)).length : Nat) : Int) ∧ Bl w1 wq) (fun _ i _ => j - (intOf i).toNat)
            case atStart => exact ⟨0, by omega, rfl, rfl, hBq⟩
            case round =>
              obtain ⟨k, hk, rfl, rfl, hBk⟩ := hrel
              by_cases hkj : k < j
              · obtain ⟨e, he, hv⟩ := hget k hkj
                obtain ⟨g, rfl, hg1, hg2⟩ := hg (by omega)
                obtain ⟨m1, m2, m3, m4⟩ := ev_cells HL.out hown he
                have m1 := st_cell hBk (st_cell hb1 m1)
                have m2 := st_cell hBk (st_cell hb1 m2)
                have m3 := st_cell hBk (st_cell hb1 m3)
                have hst := grp_step (c := c) he
                by_cases hm : e.kind = 2 ∧ e.key = c
                · have hfa := flat_at hkey he hm
                  rw [if_pos hm] at hst
                  obtain ⟨p, hp⟩ : ∃ p, (flat (keys.take q) es).length + (grp c (es.take k)).length = p := ⟨_, rfl⟩
                  rw [hp] at hfa ⊢
                  have hpl := (List.getElem?_eq_some_iff.1 hfa).1
                  have hpb : p ≤ 1000 := by
                    have h1 := endsM_len es
                    have h2 := (StatM.bd_of es).b1
                    rw [HF.out] at h1
                    have h3 := HL.out
                    omega
                  obtain ⟨gr, rfl, _, _⟩ := hR (by omega)
                  obtain ⟨n1, n2, n3, n4, n5⟩ := ran_cells rfl hr hfa
                  have n1 := st_cell hBk n1
                  have n2 := st_cell hBk n2
                  have n3 := st_cell hBk n3
                  have n4 := st_cell hBk n4
                  have n5 := st_cell hBk n5
                  simp only [ran] at n1 n4 n5
                  rw [hm.1] at m1
                  rw [hm.2] at m2 n1
                  rw [hv] at n5
                  go_wp2_with fail
                  go_quiet (fail)
                  go_wp2_with fail
                  go_roundw
                  case rel => exact ⟨k + 1, by omega, by go_num, by go_num, Bl.drewN hBk _⟩
                  case measure => simp [intOf]; omega
                · rw [if_neg hm] at hst
                  by_cases hk2 : e.kind = 2
                  · have hkc : e.key ≠ c := fun h => hm ⟨hk2, h⟩
                    rw [hk2] at m1
                    clear hm
                    go_wp2_with fail
                    go_roundw
                    case rel => exact ⟨k + 1, by omega, by go_num, by go_num, hBk⟩
                    case measure => simp [intOf]; omega
                  · clear hm
                    go_wp2_with fail
                    go_roundw
                    case rel => exact ⟨k + 1, by omega, by go_num, by go_num, hBk⟩
                    case measure => simp [intOf]; omega
              · obtain rfl : k = j := by omega
                have ht : es.take k = es := List.take_of_length_le (by have := HL.out; omega)
                rw [ht]
                have HN2 := HN.out
                go_wp2_with fail
                go_roundw
                case rel => exact ⟨q + 1, by omega, by go_num, by go_num, hBk⟩
                case measure => simp [intOf]; omega
          · obtain rfl : q = 5 := by omega
            have h5 : keys.take 5 = keys := rfl
            rw [h5]
            have hA := StatA.awake_any
            go_wp2_with (first
              | (go_at_call 18; with_reducible refine (hA _).mono ?_; rintro x w4 ⟨rfl, hb4⟩))
            go_ret
            exact ⟨rfl, by repeat (first | exact Bl.refl _ | assumption | apply Bl.drewN | apply Bl.alloc | refine Bl.trans ?_ (by assumption))⟩)
end Go.Proofs.Ytonndofbnhnkpaa.StatN
