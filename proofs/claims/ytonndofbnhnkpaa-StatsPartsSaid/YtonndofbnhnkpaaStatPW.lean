/- StatsParts: the walk. -/
import Derived.Test.YtonndofbnhnkpaaStatPI
import Derived.Test.YtonndofbnhnkpaaPlc
namespace Go.Proofs.Ytonndofbnhnkpaa.StatPW
open Go.RowKit Num KeyM KeyW StatM StatW StatO KeyT StatE StatP StatN R27 SmR App StatAW Plc StatPI Go.Proofs.Ytonndofbnhnkpaa.Inv
def fr (A : Option Addr) (n cap : Nat) (p : Int) (k : Nat) (v : Nat → Value) : Act := ⟨#[.slice A n cap, .int .i64 p, undef, undef, .bool false, .int .i64 k, v 6, v 7, v 8, undef, undef, .slice A n cap, .int .i64 n, .bool (decide ((80 : Int) < (n : Int))), undef, .int .i64 p, .slice A n cap, .int .i64 n, .int .i64 ((n : Int) + 1), .int .i64 k, v 20, v 21, v 22, v 23, v 24, v 25, v 26, v 27, v 28, v 29, undef, undef, undef, undef, undef, undef, undef, undef, undef, undef, undef, undef, undef, undef, undef, undef, undef, undef, undef, undef, undef, undef, undef, undef, undef, undef, undef, undef, undef, undef, undef, undef, undef, undef, undef, undef, undef, undef, undef, undef, undef, undef, undef, undef, undef, undef, undef, undef, undef, undef, undef, undef, undef, undef, undef, undef, undef, undef, undef, undef, undef, undef, undef, undef, undef, undef, undef, undef, undef, undef, undef, undef, undef, undef, undef, undef, undef, undef, undef, undef, undef, undef, undef, undef, undef, undef, undef, undef, undef, undef, undef, undef, undef, undef, undef, undef, undef, undef, undef, undef, undef, undef, undef, undef, undef, undef, undef, undef, undef, undef, undef, undef, undef, undef, undef, undef, undef, undef, undef, undef, undef, undef, undef], []⟩
def tab (A A2 : Option Addr) (n cap k : Nat) (s1 s2 s3 : St) : List (Nat × Nat × Value) :=
  [(0, 20, .slice A n cap), (1, 21, .int .i64 k), (2, 22, .slice A k cap), (3, 23, stV s1), (4, 24, .slice A n cap), (5, 25, .int .i64 k), (6, 26, .slice A2 (n - k) (cap - k)), (7, 27, stV s2), (8, 28, .slice A n cap), (9, 29, stV s3)]
def In (w : World) (A A2 : Option Addr) (n cap : Nat) (p : Int) (k : Nat) (s1 s2 s3 : St) (L : Array Bool) (a : Act) (w' : World) : Prop :=
  ∃ (v : Nat → Value) (B : Nat → Nat), a = fr A n cap p k v ∧ L.size = 16 ∧ Bl w w' ∧ Tab L v (tab A A2 n cap k s1 s2 s3) ∧ Rws w.heap.size L v (fun j => if j = 0 then s1 else if j = 1 then s2 else s3) B w'
theorem in_put {w : World} {A A2 : Option Addr} {n cap : Nat} {p : Int} {k : Nat} {s1 s2 s3 : St} {L : Array Bool} {v : Nat → Value} {B : Nat → Nat} {w' w'' : World} {a : Act} (hs : L.size = 16) (hb : Bl w w') (hb2 : Bl w' w'') (ht : Tab L v (tab A A2 n cap k s1 s2 s3)) (hr : Rws w.heap.size L v (fun j => if j = 0 then s1 else if j = 1 then s2 else s3) B w')
    (i d : Nat) (x : Value) (hi : i < 10) (hd : 8 < d) (ha : a = fr A n cap p k (upd v d x)) (hu : ∀ q ∈ tab A A2 n cap k s1 s2 s3, (q.1 = i ∧ q.2.1 = d ∧ q.2.2 = x) ∨ (q.1 ≠ i ∧ q.2.1 ≠ d)) : In w A A2 n cap p k s1 s2 s3 (L.setIfInBounds i true) a w'' :=
  ⟨upd v d x, B, ha, by rw [Array.size_setIfInBounds]; exact hs, Bl.trans hb hb2, ht.put i d x hu, hr.skip i d x hi hd hb2⟩
set_option maxRecDepth 100000 in
set_option maxHeartbeats 8000000 in
theorem walk (A : Option Addr) (cap n : Nat) (es : List Ev) (p : Int) (w : World) (hrd : RdEv w A es) (hn : es.length = n) (hl : n ≤ 80) (hcap : A = none → n = 0 ∧ cap = 0) (hnc : n ≤ cap) (hp : (Lit.int .i64 p).wf = true) :
    Calls Try.prog 4 #[.slice A n cap, .int .i64 p] w fun x w' => x = .returned (.bool true) ∧ Bl w w' := by
  have hP := fun w => place_any p ((n : Int) + 1) w hp (by omega) (by omega)
  have q0 := Int.emod_nonneg p (b := (n : Int) + 1) (by omega)
  have q1 := Int.emod_lt_of_pos p (b := (n : Int) + 1) (by omega)
  obtain ⟨k, hk⟩ : ∃ k : Nat, p % ((n : Int) + 1) = k := ⟨(p % ((n : Int) + 1)).toNat, by omega⟩
  rw [hk] at hP q1
  clear q0 hk
  have hkn : k ≤ n := by omega
  obtain ⟨A2, hsf, hrf⟩ := slice_from A es n cap k hn hkn hnc hcap
  have hst := slice_to A n cap k (by omega)
  have c1 := fun w' (hb : Bl w w') => StatO.of_any A cap (es.take k) w' (by
    have := rd_later hrd hb
    intro h0
    rw [List.length_take] at h0
    obtain ⟨b, off, e, hc⟩ := this (by omega)
    refine ⟨b, off, e, fun i x hx => hc i x ?_⟩
    have := (List.getElem?_eq_some_iff.1 hx).1
    rw [List.length_take] at this
    rw [← hx, List.getElem?_take_of_lt (by omega)]) (by rw [List.length_take]; omega)
  have c2 := fun w' (hb : Bl w w') => StatO.of_any A2 (cap - k) (es.drop k) w' (hrf _ (rd_later hrd hb)) (by rw [List.length_drop]; omega)
  have c3 := fun w' (hb : Bl w w') => StatO.of_any A cap es w' (rd_later hrd hb) (by omega)
  rw [List.length_take, hn, Nat.min_eq_left hkn] at c1
  rw [List.length_drop, hn] at c2
  rw [hn] at c3
  generalize hs1 : ofM (es.take k) = s1 at c1
  generalize hs2 : ofM (es.drop k) = s2 at c2
  generalize hs3 : ofM es = s3 at c3
  have HS1 := Lib.hid hs1
  have HS2 := Lib.hid hs2
  have HS3 := Lib.hid hs3
  clear hs1 hs2 hs3
  go_enter Try.func4, Try.ntmps4
  go_wp2_with fail
  refine (hP _).mono ?_
  rintro x w1 ⟨rfl, rfl⟩
  go_wp2_with fail
  refine wp_region_inv (by kernel_rfl) (In w A A2 n cap p k s1 s2 s3) ?_ ?_ ?_
  · refine ⟨fun _ => undef, fun _ => 0, rfl, by simp, Bl.drew (Bl.refl _), fun q hq hL => ?_, ⟨fun j hj hL => ?_, fun i j hi hj hij h1 h2 => ?_, fun j hj hL => ?_⟩⟩
    · simp [Array.getElem?_replicate] at hL
    · simp [Array.getElem?_replicate] at hL
    · simp [Array.getElem?_replicate] at h1
    · simp [Array.getElem?_replicate] at hL
  · intro L a w' hI hr
    obtain ⟨v, B, rfl, hsz, hb, ht, hw⟩ := hI
    have hdone := all_done (by kernel_rfl) (by rw [hsz]; rfl) hr
    have d13 : L[13 + 0]? = some true := hdone 13 (by decide)
    have d14 : L[13 + 1]? = some true := hdone 14 (by decide)
    have d15 : L[13 + 2]? = some true := hdone 15 (by decide)
    obtain ⟨g6, _, r6⟩ := hw.row 0 (by omega) (hdone 10 (by decide))
    obtain ⟨g7, _, r7⟩ := hw.row 1 (by omega) (hdone 11 (by decide))
    obtain ⟨g8, _, r8⟩ := hw.row 2 (by omega) (hdone 12 (by decide))
    rw [if_pos d13] at r6
    rw [if_pos d14] at r7
    rw [if_pos d15] at r8
    have e6 : v 6 = .pointer (some ⟨B 0, 0, none⟩) := g6
    clear g6
    have e7 : v 7 = .pointer (some ⟨B 1, 0, none⟩) := g7
    clear g7
    have e8 : v 8 = .pointer (some ⟨B 2, 0, none⟩) := g8
    clear g8
    have r6 : w'.rowIs (B 0) 25 7 (stF s1) := r6
    have r7 : w'.rowIs (B 1) 25 7 (stF s2) := r7
    have r8 : w'.rowIs (B 2) 25 7 (stF s3) := r8
    unfold fr
    rw [e6, e7, e8]
    clear hdone d13 d14 d15 hw ht hr hsz e6 e7 e8 c1 c2 c3 hP L
    generalize B 0 = B0 at *
    generalize B 1 = B1 at *
    generalize B 2 = B2 at *
    generalize v 20 = y20
    generalize v 21 = y21
    generalize v 22 = y22
    generalize v 23 = y23
    generalize v 24 = y24
    generalize v 25 = y25
    generalize v 26 = y26
    generalize v 27 = y27
    generalize v 28 = y28
    generalize v 29 = y29
    clear v B
    have hbd1 := bd_of (es.take k)
    have hbd2 := bd_of (es.drop k)
    have hel := endsM_len es
    have hadd := ofM_append (es.take k) (es.drop k)
    rw [List.take_append_drop, HS1.out, HS2.out, HS3.out] at hadd
    rw [HS1.out, List.length_take] at hbd1
    rw [HS2.out, List.length_drop] at hbd2
    rw [HS3.out] at hel
    subst hadd
    obtain ⟨a0, a1, a2, a3, a4, a5, a6⟩ := s1
    obtain ⟨b0, b1, b2, b3, b4, b5, b6⟩ := s2
    obtain ⟨p1, p2, p3, p4, p5, p6, p7, p8, p9, p10, p11, p12, p13, p14, p15⟩ := hbd1
    obtain ⟨t1, t2, t3, t4, t5, t6, t7, t8, t9, t10, t11, t12, t13, t14, t15⟩ := hbd2
    simp only [StatM.add] at *
    have m0 : w'.cell? ⟨B0, 0, none⟩ = some (.int .i64 a0) := r6.cell (i := 0) (by omega)
    have m1 : w'.cell? ⟨B0, 1, none⟩ = some (.int .i64 a1) := r6.cell (i := 1) (by omega)
    have m2 : w'.cell? ⟨B0, 2, none⟩ = some (.int .i64 a2) := r6.cell (i := 2) (by omega)
    have m3 : w'.cell? ⟨B0, 3, none⟩ = some (.int .i64 a3) := r6.cell (i := 3) (by omega)
    have m4 : w'.cell? ⟨B0, 4, none⟩ = some (.int .i64 a4) := r6.cell (i := 4) (by omega)
    have m5 : w'.cell? ⟨B0, 5, none⟩ = some (.int .i64 a5) := r6.cell (i := 5) (by omega)
    have m6 : w'.cell? ⟨B0, 6, none⟩ = some (.int .i64 a6) := r6.cell (i := 6) (by omega)
    have n0 : w'.cell? ⟨B1, 0, none⟩ = some (.int .i64 b0) := r7.cell (i := 0) (by omega)
    have n1 : w'.cell? ⟨B1, 1, none⟩ = some (.int .i64 b1) := r7.cell (i := 1) (by omega)
    have n2 : w'.cell? ⟨B1, 2, none⟩ = some (.int .i64 b2) := r7.cell (i := 2) (by omega)
    have n3 : w'.cell? ⟨B1, 3, none⟩ = some (.int .i64 b3) := r7.cell (i := 3) (by omega)
    have n4 : w'.cell? ⟨B1, 4, none⟩ = some (.int .i64 b4) := r7.cell (i := 4) (by omega)
    have n5 : w'.cell? ⟨B1, 5, none⟩ = some (.int .i64 b5) := r7.cell (i := 5) (by omega)
    have n6 : w'.cell? ⟨B1, 6, none⟩ = some (.int .i64 b6) := r7.cell (i := 6) (by omega)
    have o0 : w'.cell? ⟨B2, 0, none⟩ = some (.int .i64 (a0 + b0)) := r8.cell (i := 0) (by omega)
    have o1 : w'.cell? ⟨B2, 1, none⟩ = some (.int .i64 (a1 + b1)) := r8.cell (i := 1) (by omega)
    have o2 : w'.cell? ⟨B2, 2, none⟩ = some (.int .i64 (a2 + b2)) := r8.cell (i := 2) (by omega)
    have o3 : w'.cell? ⟨B2, 3, none⟩ = some (.int .i64 (a3 + b3)) := r8.cell (i := 3) (by omega)
    have o4 : w'.cell? ⟨B2, 4, none⟩ = some (.int .i64 (a4 + b4)) := r8.cell (i := 4) (by omega)
    have o5 : w'.cell? ⟨B2, 5, none⟩ = some (.int .i64 (max a5 b5)) := r8.cell (i := 5) (by omega)
    have o6 : w'.cell? ⟨B2, 6, none⟩ = some (.int .i64 (a6 + b6)) := r8.cell (i := 6) (by omega)
    rw [← max_if] at o5
    have x1 : ((a1 + b1) != (a2 + b2 + (a3 + b3))) = false := by simp; omega
    have x6 : -1000 ≤ a6 := by omega
    have x7 : a6 ≤ 1000 := by omega
    have x8 : -1000 ≤ b6 := by omega
    have x9 : b6 ≤ 1000 := by omega
    have hel2 : (endsM es).length ≤ 80 := by omega
    have HEL := Lib.hid hel
    clear hel p13 p14 t13 t14 r6 r7
    have cE := StatE.ends_loop A cap es w' (rd_later hrd hb) (by omega)
    rw [hn] at cE
    have hsort := Lib.hid (endsM_sorted es)
    obtain ⟨en, hen⟩ : ∃ en, (endsM es).length = en := ⟨_, rfl⟩
    have HEN := Lib.hid hen
    rw [hen] at cE HEL hel2
    clear hen
    have hx : ((en : Int) == a1 + b1) = true := by simp [HEL.out]
    rcases Int.lt_or_le a5 b5 with hmx | hmx
    case' inl => rw [if_pos hmx] at o5
    case' inr => rw [if_neg (by omega)] at o5
    all_goals
      go_wp2_with fail
      refine cE.mono ?_
      rintro x w3 ⟨vm, rfl, hown, hb3⟩
      obtain ⟨M, cm, rfl, hg⟩ := own_shape5 hown
      have hB3 : Bl w w3 := Bl.trans hb hb3
      have o1 := st_cell hb3 o1
      clear m0 m1 m2 m3 m4 m5 m6 n0 n1 n2 n3 n4 n5 n6 o0 o2 o3 o4 o5 o6 r8 cE
      go_wp2_with fail
      go_loopw [10] (fun i wr => ∃ q : Nat, i = .int .i64 ((q : Int) + 1) ∧ q ≤ 80 ∧ Bl w3 wr) (fun i _ => 90 - (intOf i).toNat)
      case atStart => exact ⟨0, rfl, by omega, Bl.refl _⟩
      case round =>
        obtain ⟨q, rfl, hq, hB4⟩ := hrel
        by_cases hlt : q + 1 < en
        · obtain ⟨g, rfl, _, _⟩ := hg (by omega)
          obtain ⟨y, hy⟩ : ∃ y, (endsM es)[q]? = some y := ⟨_, List.getElem?_eq_getElem (by rw [HEN.out]; omega)⟩
          obtain ⟨z, hz⟩ : ∃ z, (endsM es)[q + 1]? = some z := ⟨_, List.getElem?_eq_getElem (by rw [HEN.out]; omega)⟩
          have hle := sorted_get hsort.out (Nat.le_succ q) hy hz
          have g1 := st_cell hB4 (ran_cells HEN.out hown hy).1
          have g2 := st_cell hB4 (ran_cells HEN.out hown hz).1
          have b1' : (q : Int) + 1 < (en : Int) := by omega
          have b2' : (0 : Int) ≤ (q : Int) := by omega
          have b3' : (q : Int) < (en : Int) := by omega
          have b4' : (0 : Int) ≤ (q : Int) + 1 := by omega
          have b5' : ((q : Int) + 1).toNat = q + 1 := by omega
          clear hy hz
          go_wp2_with fail
          go_quiet (fail)
          go_wp2_with fail
          go_roundw
          case rel => exact ⟨q + 1, by go_num, by omega, Bl.drewN hB4 _⟩
          case measure => simp [intOf]; omega
        · have o1 := st_cell hB4 o1
          have b1' : ¬ (q : Int) + 1 < (en : Int) := by omega
          have hB5 : Bl w wr := Bl.trans hB3 hB4
          have k1 := fun w' (hb : Bl w w') => StatR.order_any A cap es w' (rd_later hrd hb) (by omega)
          have k2 := fun w' (hb : Bl w w') => StatR.order_any A cap (es.take k) w' (by
            have := rd_later hrd hb
            intro h0
            rw [List.length_take] at h0
            obtain ⟨b, off, e, hc⟩ := this (by omega)
            refine ⟨b, off, e, fun i x hx => hc i x ?_⟩
            have := (List.getElem?_eq_some_iff.1 hx).1
            rw [List.length_take] at this
            rw [← hx, List.getElem?_take_of_lt (by omega)]) (by rw [List.length_take]; omega)
          have k3 := fun w' (hb : Bl w w') => StatR.order_any A2 (cap - k) (es.drop k) w' (hrf _ (rd_later hrd hb)) (by rw [List.length_drop]; omega)
          rw [List.length_take, hn, Nat.min_eq_left hkn] at k2
          rw [List.length_drop, hn] at k3
          rw [hn] at k1
          have hoa := ord_append (a := es.take k) (b := es.drop k)
          rw [List.take_append_drop] at hoa
          have hA := fun w => StatA.awake_any w
          cases ho : ordM es
          case' true =>
            obtain ⟨h1, h2⟩ := hoa ho
            rw [h1] at k2
            rw [h2] at k3
          all_goals
            rw [ho] at k1
            clear ho hoa
            go_wp2_with fail
            refine (k1 _ hB5).mono ?_
            rintro x w5 ⟨rfl, hb5⟩
            go_wp2_with (first
              | (go_at_call 18; with_reducible refine (hA _).mono ?_; rintro x w8 ⟨rfl, hb8⟩)
              | ((with_reducible refine (k2 _ (by repeat (first | exact Bl.refl _ | assumption | apply Bl.drewN | apply Bl.drew | apply Bl.alloc | refine Bl.trans ?_ (by assumption)))).mono ?_); rintro x w6 ⟨rfl, hb6⟩)
              | ((with_reducible refine (k3 _ (by repeat (first | exact Bl.refl _ | assumption | apply Bl.drewN | apply Bl.drew | apply Bl.alloc | refine Bl.trans ?_ (by assumption)))).mono ?_); rintro x w7 ⟨rfl, hb7⟩))
            go_ret
            exact ⟨rfl, by repeat (first | exact Bl.refl _ | assumption | apply Bl.drewN | apply Bl.drew | apply Bl.alloc | refine Bl.trans ?_ (by assumption))⟩
  · intro i o L a w' hI hL ho hd
    obtain ⟨v, B, rfl, hsz, hb, ht, hr⟩ := hI
    have hi : i < 16 := (Array.getElem?_eq_some_iff.1 ho).1
    have HT := Lib.hid ht
    clear ht hP
    generalize hK : (fun a' w'' => In w A A2 n cap p k s1 s2 s3 (L.setIfInBounds i true) a' w'') = K
    obtain rfl | rfl | rfl | rfl | rfl | rfl | rfl | rfl | rfl | rfl | rfl | rfl | rfl | rfl | rfl | rfl : i = 0 ∨ i = 1 ∨ i = 2 ∨ i = 3 ∨ i = 4 ∨ i = 5 ∨ i = 6 ∨ i = 7 ∨ i = 8 ∨ i = 9 ∨ i = 10 ∨ i = 11 ∨ i = 12 ∨ i = 13 ∨ i = 14 ∨ i = 15 := by omega
    · refine wpOp_of ho (by cases ho; rfl) ?_
      cases ho
      unfold fr
      go_simp
      subst hK
      exact in_put hsz hb (Bl.refl _) HT.out hr 0 20 _ (by omega) (by omega) rfl (by intro q hq; simp [tab] at hq; rcases hq with rfl | rfl | rfl | rfl | rfl | rfl | rfl | rfl | rfl | rfl <;> simp)
    · refine wpOp_of ho (by cases ho; rfl) ?_
      cases ho
      unfold fr
      go_simp
      subst hK
      exact in_put hsz hb (Bl.refl _) HT.out hr 1 21 _ (by omega) (by omega) rfl (by intro q hq; simp [tab] at hq; rcases hq with rfl | rfl | rfl | rfl | rfl | rfl | rfl | rfl | rfl | rfl <;> simp)
    · refine wpOp_of ho (by cases ho; rfl) ?_
      have h0 : v 20 = .slice A n cap := HT.out (0, 20, .slice A n cap) (by simp [tab]) (by cases ho; exact hd ⟨0, .data⟩ (by simp) rfl)
      have h1 : v 21 = .int .i64 k := HT.out (1, 21, .int .i64 k) (by simp [tab]) (by cases ho; exact hd ⟨1, .data⟩ (by simp) rfl)
      cases ho
      unfold fr
      go_simp
      subst hK
      exact in_put hsz hb (Bl.refl _) HT.out hr 2 22 (.slice A k cap) (by omega) (by omega) (by unfold fr; simp [upd, h0, h1]) (by intro q hq; simp [tab] at hq; rcases hq with rfl | rfl | rfl | rfl | rfl | rfl | rfl | rfl | rfl | rfl <;> simp)
    · refine wpOp_of ho (by cases ho; rfl) ?_
      have h0 : v 22 = .slice A k cap := HT.out (2, 22, .slice A k cap) (by simp [tab]) (by cases ho; exact hd ⟨2, .data⟩ (by simp) rfl)
      cases ho
      unfold fr
      go_simp
      go_at_call 19
      refine (c1 _ hb).mono ?_
      rintro x w2 ⟨rfl, hb2⟩
      go_simp
      subst hK
      exact in_put hsz hb hb2 HT.out hr 3 23 (stV s1) (by omega) (by omega) (by unfold fr; simp [upd, h0]) (by intro q hq; simp [tab] at hq; rcases hq with rfl | rfl | rfl | rfl | rfl | rfl | rfl | rfl | rfl | rfl <;> simp)
    · refine wpOp_of ho (by cases ho; rfl) ?_
      cases ho
      unfold fr
      go_simp
      subst hK
      exact in_put hsz hb (Bl.refl _) HT.out hr 4 24 _ (by omega) (by omega) rfl (by intro q hq; simp [tab] at hq; rcases hq with rfl | rfl | rfl | rfl | rfl | rfl | rfl | rfl | rfl | rfl <;> simp)
    · refine wpOp_of ho (by cases ho; rfl) ?_
      cases ho
      unfold fr
      go_simp
      subst hK
      exact in_put hsz hb (Bl.refl _) HT.out hr 5 25 _ (by omega) (by omega) rfl (by intro q hq; simp [tab] at hq; rcases hq with rfl | rfl | rfl | rfl | rfl | rfl | rfl | rfl | rfl | rfl <;> simp)
    · refine wpOp_of ho (by cases ho; rfl) ?_
      have h0 : v 24 = .slice A n cap := HT.out (4, 24, .slice A n cap) (by simp [tab]) (by cases ho; exact hd ⟨4, .data⟩ (by simp) rfl)
      have h1 : v 25 = .int .i64 k := HT.out (5, 25, .int .i64 k) (by simp [tab]) (by cases ho; exact hd ⟨5, .data⟩ (by simp) rfl)
      cases ho
      unfold fr
      go_simp
      subst hK
      exact in_put hsz hb (Bl.refl _) HT.out hr 6 26 (.slice A2 (n - k) (cap - k)) (by omega) (by omega) (by unfold fr; simp [upd, h0, h1]) (by intro q hq; simp [tab] at hq; rcases hq with rfl | rfl | rfl | rfl | rfl | rfl | rfl | rfl | rfl | rfl <;> simp)
    · refine wpOp_of ho (by cases ho; rfl) ?_
      have h0 : v 26 = .slice A2 (n - k) (cap - k) := HT.out (6, 26, .slice A2 (n - k) (cap - k)) (by simp [tab]) (by cases ho; exact hd ⟨6, .data⟩ (by simp) rfl)
      cases ho
      unfold fr
      go_simp
      go_at_call 19
      refine (c2 _ hb).mono ?_
      rintro x w2 ⟨rfl, hb2⟩
      go_simp
      subst hK
      exact in_put hsz hb hb2 HT.out hr 7 27 (stV s2) (by omega) (by omega) (by unfold fr; simp [upd, h0]) (by intro q hq; simp [tab] at hq; rcases hq with rfl | rfl | rfl | rfl | rfl | rfl | rfl | rfl | rfl | rfl <;> simp)
    · refine wpOp_of ho (by cases ho; rfl) ?_
      cases ho
      unfold fr
      go_simp
      subst hK
      exact in_put hsz hb (Bl.refl _) HT.out hr 8 28 _ (by omega) (by omega) rfl (by intro q hq; simp [tab] at hq; rcases hq with rfl | rfl | rfl | rfl | rfl | rfl | rfl | rfl | rfl | rfl <;> simp)
    · refine wpOp_of ho (by cases ho; rfl) ?_
      have h0 : v 28 = .slice A n cap := HT.out (8, 28, .slice A n cap) (by simp [tab]) (by cases ho; exact hd ⟨8, .data⟩ (by simp) rfl)
      cases ho
      unfold fr
      go_simp
      go_at_call 19
      refine (c3 _ hb).mono ?_
      rintro x w2 ⟨rfl, hb2⟩
      go_simp
      subst hK
      exact in_put hsz hb hb2 HT.out hr 9 29 (stV s3) (by omega) (by omega) (by unfold fr; simp [upd, h0]) (by intro q hq; simp [tab] at hq; rcases hq with rfl | rfl | rfl | rfl | rfl | rfl | rfl | rfl | rfl | rfl <;> simp)
    · refine wpOp_of ho (by cases ho; rfl) ?_
      cases ho
      unfold fr
      go_simp
      subst hK
      exact ⟨upd v 6 (.pointer (some ⟨w'.heap.size, 0, none⟩)), upd B 0 w'.heap.size, rfl, by rw [Array.size_setIfInBounds]; exact hsz, hb.alloc _, HT.out.put 10 6 _ (by intro q hq; simp [tab] at hq; rcases hq with rfl | rfl | rfl | rfl | rfl | rfl | rfl | rfl | rfl | rfl <;> simp), hr.alloc 0 (by omega) hL hb.size⟩
    · refine wpOp_of ho (by cases ho; rfl) ?_
      cases ho
      unfold fr
      go_simp
      subst hK
      exact ⟨upd v 7 (.pointer (some ⟨w'.heap.size, 0, none⟩)), upd B 1 w'.heap.size, rfl, by rw [Array.size_setIfInBounds]; exact hsz, hb.alloc _, HT.out.put 11 7 _ (by intro q hq; simp [tab] at hq; rcases hq with rfl | rfl | rfl | rfl | rfl | rfl | rfl | rfl | rfl | rfl <;> simp), hr.alloc 1 (by omega) hL hb.size⟩
    · refine wpOp_of ho (by cases ho; rfl) ?_
      cases ho
      unfold fr
      go_simp
      subst hK
      exact ⟨upd v 8 (.pointer (some ⟨w'.heap.size, 0, none⟩)), upd B 2 w'.heap.size, rfl, by rw [Array.size_setIfInBounds]; exact hsz, hb.alloc _, HT.out.put 12 8 _ (by intro q hq; simp [tab] at hq; rcases hq with rfl | rfl | rfl | rfl | rfl | rfl | rfl | rfl | rfl | rfl <;> simp), hr.alloc 2 (by omega) hL hb.size⟩
    · refine wpOp_of ho (by cases ho; rfl) ?_
      have h0 : v 23 = stV s1 := HT.out (3, 23, stV s1) (by simp [tab]) (by cases ho; exact hd ⟨3, .data⟩ (by simp) rfl)
      have hLa : L[10]? = some true := (by cases ho; exact hd ⟨10, .data⟩ (by simp) rfl)
      obtain ⟨h1, h2, h3⟩ := hr.row 0 (by omega) hLa
      have h1 : v 6 = .pointer (some ⟨B 0, 0, none⟩) := h1
      have g0 : w'.cell? ⟨B 0, 0, none⟩ = some _ := h3.cell (i := 0) (by omega)
      have f0 := h3.frozen 0
      have g1 : w'.cell? ⟨B 0, 1, none⟩ = some _ := h3.cell (i := 1) (by omega)
      have f1 := h3.frozen 1
      have g2 : w'.cell? ⟨B 0, 2, none⟩ = some _ := h3.cell (i := 2) (by omega)
      have f2 := h3.frozen 2
      have g3 : w'.cell? ⟨B 0, 3, none⟩ = some _ := h3.cell (i := 3) (by omega)
      have f3 := h3.frozen 3
      have g4 : w'.cell? ⟨B 0, 4, none⟩ = some _ := h3.cell (i := 4) (by omega)
      have f4 := h3.frozen 4
      have g5 : w'.cell? ⟨B 0, 5, none⟩ = some _ := h3.cell (i := 5) (by omega)
      have f5 := h3.frozen 5
      have g6 : w'.cell? ⟨B 0, 6, none⟩ = some _ := h3.cell (i := 6) (by omega)
      have f6 := h3.frozen 6
      have hlt := h3.lt
      unfold stV at h0
      clear h3
      cases ho
      unfold fr
      go_simp
      subst hK
      exact ⟨v, B, by unfold fr; simp [h0, h1], by rw [Array.size_setIfInBounds]; exact hsz, put7_below (show Below w.heap.size w w' from hb) h2 _, HT.out.skip 13 (by intro q hq; simp [tab] at hq; rcases hq with rfl | rfl | rfl | rfl | rfl | rfl | rfl | rfl | rfl | rfl <;> simp), hr.store 0 (by omega) hL hLa⟩
    · refine wpOp_of ho (by cases ho; rfl) ?_
      have h0 : v 27 = stV s2 := HT.out (7, 27, stV s2) (by simp [tab]) (by cases ho; exact hd ⟨7, .data⟩ (by simp) rfl)
      have hLa : L[11]? = some true := (by cases ho; exact hd ⟨11, .data⟩ (by simp) rfl)
      obtain ⟨h1, h2, h3⟩ := hr.row 1 (by omega) hLa
      have h1 : v 7 = .pointer (some ⟨B 1, 0, none⟩) := h1
      have g0 : w'.cell? ⟨B 1, 0, none⟩ = some _ := h3.cell (i := 0) (by omega)
      have f0 := h3.frozen 0
      have g1 : w'.cell? ⟨B 1, 1, none⟩ = some _ := h3.cell (i := 1) (by omega)
      have f1 := h3.frozen 1
      have g2 : w'.cell? ⟨B 1, 2, none⟩ = some _ := h3.cell (i := 2) (by omega)
      have f2 := h3.frozen 2
      have g3 : w'.cell? ⟨B 1, 3, none⟩ = some _ := h3.cell (i := 3) (by omega)
      have f3 := h3.frozen 3
      have g4 : w'.cell? ⟨B 1, 4, none⟩ = some _ := h3.cell (i := 4) (by omega)
      have f4 := h3.frozen 4
      have g5 : w'.cell? ⟨B 1, 5, none⟩ = some _ := h3.cell (i := 5) (by omega)
      have f5 := h3.frozen 5
      have g6 : w'.cell? ⟨B 1, 6, none⟩ = some _ := h3.cell (i := 6) (by omega)
      have f6 := h3.frozen 6
      have hlt := h3.lt
      unfold stV at h0
      clear h3
      cases ho
      unfold fr
      go_simp
      subst hK
      exact ⟨v, B, by unfold fr; simp [h0, h1], by rw [Array.size_setIfInBounds]; exact hsz, put7_below (show Below w.heap.size w w' from hb) h2 _, HT.out.skip 14 (by intro q hq; simp [tab] at hq; rcases hq with rfl | rfl | rfl | rfl | rfl | rfl | rfl | rfl | rfl | rfl <;> simp), hr.store 1 (by omega) hL hLa⟩
    · refine wpOp_of ho (by cases ho; rfl) ?_
      have h0 : v 29 = stV s3 := HT.out (9, 29, stV s3) (by simp [tab]) (by cases ho; exact hd ⟨9, .data⟩ (by simp) rfl)
      have hLa : L[12]? = some true := (by cases ho; exact hd ⟨12, .data⟩ (by simp) rfl)
      obtain ⟨h1, h2, h3⟩ := hr.row 2 (by omega) hLa
      have h1 : v 8 = .pointer (some ⟨B 2, 0, none⟩) := h1
      have g0 : w'.cell? ⟨B 2, 0, none⟩ = some _ := h3.cell (i := 0) (by omega)
      have f0 := h3.frozen 0
      have g1 : w'.cell? ⟨B 2, 1, none⟩ = some _ := h3.cell (i := 1) (by omega)
      have f1 := h3.frozen 1
      have g2 : w'.cell? ⟨B 2, 2, none⟩ = some _ := h3.cell (i := 2) (by omega)
      have f2 := h3.frozen 2
      have g3 : w'.cell? ⟨B 2, 3, none⟩ = some _ := h3.cell (i := 3) (by omega)
      have f3 := h3.frozen 3
      have g4 : w'.cell? ⟨B 2, 4, none⟩ = some _ := h3.cell (i := 4) (by omega)
      have f4 := h3.frozen 4
      have g5 : w'.cell? ⟨B 2, 5, none⟩ = some _ := h3.cell (i := 5) (by omega)
      have f5 := h3.frozen 5
      have g6 : w'.cell? ⟨B 2, 6, none⟩ = some _ := h3.cell (i := 6) (by omega)
      have f6 := h3.frozen 6
      have hlt := h3.lt
      unfold stV at h0
      clear h3
      cases ho
      unfold fr
      go_simp
      subst hK
      exact ⟨v, B, by unfold fr; simp [h0, h1], by rw [Array.size_setIfInBounds]; exact hsz, put7_below (show Below w.heap.size w w' from hb) h2 _, HT.out.skip 15 (by intro q hq; simp [tab] at hq; rcases hq with rfl | rfl | rfl | rfl | rfl | rfl | rfl | rfl | rfl | rfl <;> simp), hr.store 2 (by omega) hL hLa⟩
theorem walk_long (A : Option Addr) (len cap : Nat) (p : Int) (w : World) (hl : 80 < len) : Calls Try.prog 4 #[.slice A len cap, .int .i64 p] w fun x w' => x = .returned (.bool true) ∧ Bl w w' := by
  have hA := fun w => StatA.awake_any w
  have h1 : (80 : Int) < (len : Int) := by omega
  go_enter Try.func4, Try.ntmps4
  go_wp2_with (first
    | (go_at_call 18; with_reducible refine (hA _).mono ?_; rintro x w4 ⟨rfl, hb4⟩))
  go_ret
  exact ⟨rfl, hb4⟩
theorem walk_of (a : Option Addr) (len cap : Nat) (F : Nat → Nat → Int) (p : Int) (w : World) (h : Frm.IsRows w 4 a len cap F) (_ : len * 32 ≤ 140737488351232) (hp : (Lit.int .i64 p).wf = true) :
    Calls Try.prog 4 #[.slice a len cap, .int .i64 p] w fun x w' => x = .returned (.bool true) ∧ Bl w w' := by
  rcases Nat.lt_or_ge 80 len with hl | hl
  · exact walk_long a len cap p w hl
  · obtain ⟨es, h1, h2, h3, h4, h5⟩ := RdE.rd_of h
    exact walk a cap len es p w h2 h1 hl (fun e => by have := h5 e; omega) h3 hp
end Go.Proofs.Ytonndofbnhnkpaa.StatPW
