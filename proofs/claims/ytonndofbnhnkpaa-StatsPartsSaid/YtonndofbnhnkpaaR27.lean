/- The reference of chapter 27: counts, order. -/
import Derived.Test.YtonndofbnhnkpaaStatN
import Derived.Test.YtonndofbnhnkpaaRef6
namespace Go.Proofs.Ytonndofbnhnkpaa.R27
open Go.RowKit Num KeyM KeyW StatM StatW StatO KeyT StatE StatP StatN
/-- The counts without what is open. -/
def shutS (s : St) : St := { s with op := 0 }
theorem stF_congr {s t : St} (h0 : s.st = t.st) (h1 : s.fi = t.fi) (h2 : s.va = t.va) (h3 : s.er = t.er) (h4 : s.se = t.se) (h5 : s.de = t.de) (h6 : s.op = t.op) : ∀ i, i < 7 → stF s i = stF t i := by
  intro i _
  unfold stF; rw [h0, h1, h2, h3, h4, h5, h6]
theorem max_if (a b : Int) : (if a < b then b else a) = max a b := by rw [Int.max_def]; split <;> split <;> omega
theorem shut_zero : shutS St.zero = St.zero := rfl
set_option maxRecDepth 100000 in
set_option maxHeartbeats 16000000 in
theorem of27 (A : Option Addr) (cap : Nat) (es : List Ev) (w : World) (h : RdEv w A es) (hl : es.length ≤ 1000000000000000000) :
    Calls Try.prog 20 #[.slice A es.length cap] w fun x w' => x = .returned (stV (ofM es)) ∧ Bl w w' := by
  go_enter Try.func20, Try.ntmps20
  go_wp2_with fail
  go_loopw [4] (fun c wr => ∃ j : Nat, j ≤ es.length ∧ c = .int .i64 j ∧ wr.rowIs (w.heap.size + 1) 27 7 (stF (shutS (ofM (es.take j)))) ∧ wr.rowIs w.heap.size 27 7 (stF St.zero) ∧ Bl w wr) (fun c _ => es.length - (intOf c).toNat)
  case atStart =>
    have hr0 := World.rowIs_alloc w #[.int .i64 0, .int .i64 0, .int .i64 0, .int .i64 0, .int .i64 0, .int .i64 0, .int .i64 0] 27 (stF St.zero) (by
      intro i hi
      simp at hi
      obtain rfl | rfl | rfl | rfl | rfl | rfl | rfl : i = 0 ∨ i = 1 ∨ i = 2 ∨ i = 3 ∨ i = 4 ∨ i = 5 ∨ i = 6 := by omega
      all_goals rfl)
    have hr1 := World.rowIs_alloc (w.alloc (.cells #[.int .i64 0, .int .i64 0, .int .i64 0, .int .i64 0, .int .i64 0, .int .i64 0, .int .i64 0] 27)) #[.int .i64 0, .int .i64 0, .int .i64 0, .int .i64 0, .int .i64 0, .int .i64 0, .int .i64 0] 27 (stF St.zero) (by
      intro i hi
      simp at hi
      obtain rfl | rfl | rfl | rfl | rfl | rfl | rfl : i = 0 ∨ i = 1 ∨ i = 2 ∨ i = 3 ∨ i = 4 ∨ i = 5 ∨ i = 6 := by omega
      all_goals rfl)
    have hr2 : ((w.alloc (.cells #[.int .i64 0, .int .i64 0, .int .i64 0, .int .i64 0, .int .i64 0, .int .i64 0, .int .i64 0] 27)).alloc (.cells #[.int .i64 0, .int .i64 0, .int .i64 0, .int .i64 0, .int .i64 0, .int .i64 0, .int .i64 0] 27)).rowIs (w.heap.size + 1) 27 7 (stF St.zero) := by
      rw [show w.heap.size + 1 = (w.alloc (.cells #[.int .i64 0, .int .i64 0, .int .i64 0, .int .i64 0, .int .i64 0, .int .i64 0, .int .i64 0] 27)).heap.size by simp]
      exact hr1
    exact ⟨0, by omega, rfl, hr2, World.rowIs.alloc hr0 _, ((Bl.refl w).alloc _).alloc _⟩
  case round =>
    obtain ⟨j, hj, rfl, hR, hR0, hB⟩ := hrel
    by_cases hlt : j < es.length
    · obtain ⟨b, off, rfl, hc⟩ := h (by omega)
      obtain ⟨e, he⟩ : ∃ e, es[j]? = some e := ⟨_, List.getElem?_eq_getElem hlt⟩
      obtain ⟨c1, c2, c3, c4⟩ := hc j e he
      have c1 := st_cell hB c1
      have c2 := st_cell hB c2
      have c3 := st_cell hB c3
      have hT : es.take (j + 1) = es.take j ++ [e] := by rw [List.take_add_one, he]; rfl
      have hS := ofM_snoc (es.take j) e
      rw [← hT] at hS
      have HS := Lib.hid hS
      have hbd := bd_of (es.take j)
      have hlen : ((es.take j).length : Int) ≤ 9000000000000000000 := by rw [List.length_take]; omega
      clear hS hT hc c4
      obtain ⟨s, hs⟩ : ∃ s, ofM (es.take j) = s := ⟨_, rfl⟩
      rw [hs] at hbd hR HS
      clear hs
      obtain ⟨b1, b2, b3, b4, b5, b6, b7, b8, b9, b10, b11, b12, b13, b14, b15⟩ := hbd
      have d0 : wr.cell? ⟨w.heap.size + 1, 0, none⟩ = some (.int .i64 s.st) := hR.cell (i := 0) (by omega)
      have d1 : wr.cell? ⟨w.heap.size + 1, 1, none⟩ = some (.int .i64 s.fi) := hR.cell (i := 1) (by omega)
      have d2 : wr.cell? ⟨w.heap.size + 1, 2, none⟩ = some (.int .i64 s.va) := hR.cell (i := 2) (by omega)
      have d3 : wr.cell? ⟨w.heap.size + 1, 3, none⟩ = some (.int .i64 s.er) := hR.cell (i := 3) (by omega)
      have d4 : wr.cell? ⟨w.heap.size + 1, 4, none⟩ = some (.int .i64 s.se) := hR.cell (i := 4) (by omega)
      have d5 : wr.cell? ⟨w.heap.size + 1, 5, none⟩ = some (.int .i64 s.de) := hR.cell (i := 5) (by omega)
      have fz := hR.frozen
      have hlt1 := hR.lt
      have hC := fun w => Ref6.depth_any e.key w
      have dl := dep_lo e.key
      have du := dep_hi e.key
      clear b13 b14
      by_cases k1 : e.kind = 1
      · have hE : Hid (StatM.step s e = { s with st := s.st + 1, op := s.op + 1, de := max s.de (dep e.key) }) := by
          show _ = _; unfold StatM.step; rw [if_pos k1]
        rw [k1] at c1
        clear k1
        go_wp2_with fail
        go_region_with (go_at_call 55; refine (hC _).mono ?_; rintro x w4 ⟨rfl, rfl⟩)
        all_goals (
          go_wp2_with fail
          go_roundw
          case rel => exact ⟨j + 1, by omega, by go_num, World.rowIs.congr (by repeat (first | with_reducible exact hR | with_reducible apply World.rowIs.drew | with_reducible apply World.rowIs.set)) (by
            rw [HS.out, hE.out]
            intro i hi
            obtain rfl | rfl | rfl | rfl | rfl | rfl | rfl : i = 0 ∨ i = 1 ∨ i = 2 ∨ i = 3 ∨ i = 4 ∨ i = 5 ∨ i = 6 := by omega
            all_goals first | rfl | (show Value.int _ _ = Value.int _ _; exact congrArg _ (max_if _ _))), hR0.of_block ((show On (w.heap.size + 1) wr _ from by repeat (first | with_reducible exact on_refl _ _ | with_reducible apply on_drewN | with_reducible apply on_drew | with_reducible apply on_setB)).block _ (by omega) (by simp)), bl_on hB (show On (w.heap.size + 1) wr _ from by repeat (first | with_reducible exact on_refl _ _ | with_reducible apply on_drewN | with_reducible apply on_drew | with_reducible apply on_setB)) (by omega)⟩
          case measure => simp [intOf]; omega)
      · by_cases k2 : e.kind = 2
        · by_cases k4 : e.how = 1
          · have hE : Hid (StatM.step s e = { s with fi := s.fi + 1, op := s.op - 1, va := s.va + 1 }) := by
              show _ = _; unfold StatM.step; rw [if_neg k1, if_pos k2, if_pos k4]
            rw [k2] at c1
            rw [k4] at c3
            clear k1 k2 k4
            go_wp2_with fail
            go_roundw
            case rel => exact ⟨j + 1, by omega, by go_num, World.rowIs.congr (by repeat (first | with_reducible exact hR | with_reducible apply World.rowIs.drew | with_reducible apply World.rowIs.set)) (by
              rw [HS.out, hE.out]
              intro i hi
              obtain rfl | rfl | rfl | rfl | rfl | rfl | rfl : i = 0 ∨ i = 1 ∨ i = 2 ∨ i = 3 ∨ i = 4 ∨ i = 5 ∨ i = 6 := by omega
              all_goals first | rfl | (show Value.int _ _ = Value.int _ _; exact congrArg _ (max_if _ _))), hR0.of_block ((show On (w.heap.size + 1) wr _ from by repeat (first | with_reducible exact on_refl _ _ | with_reducible apply on_drewN | with_reducible apply on_drew | with_reducible apply on_setB)).block _ (by omega) (by simp)), bl_on hB (show On (w.heap.size + 1) wr _ from by repeat (first | with_reducible exact on_refl _ _ | with_reducible apply on_drewN | with_reducible apply on_drew | with_reducible apply on_setB)) (by omega)⟩
            case measure => simp [intOf]; omega
          · have hE : Hid (StatM.step s e = { s with fi := s.fi + 1, op := s.op - 1, er := s.er + 1 }) := by
              show _ = _; unfold StatM.step; rw [if_neg k1, if_pos k2, if_neg k4]
            rw [k2] at c1
            have k4' : (e.how == 1) = false := by simp [k4]
            clear k1 k2
            go_wp2_with fail
            go_roundw
            case rel => exact ⟨j + 1, by omega, by go_num, World.rowIs.congr (by repeat (first | with_reducible exact hR | with_reducible apply World.rowIs.drew | with_reducible apply World.rowIs.set)) (by
              rw [HS.out, hE.out]
              intro i hi
              obtain rfl | rfl | rfl | rfl | rfl | rfl | rfl : i = 0 ∨ i = 1 ∨ i = 2 ∨ i = 3 ∨ i = 4 ∨ i = 5 ∨ i = 6 := by omega
              all_goals first | rfl | (show Value.int _ _ = Value.int _ _; exact congrArg _ (max_if _ _))), hR0.of_block ((show On (w.heap.size + 1) wr _ from by repeat (first | with_reducible exact on_refl _ _ | with_reducible apply on_drewN | with_reducible apply on_drew | with_reducible apply on_setB)).block _ (by omega) (by simp)), bl_on hB (show On (w.heap.size + 1) wr _ from by repeat (first | with_reducible exact on_refl _ _ | with_reducible apply on_drewN | with_reducible apply on_drew | with_reducible apply on_setB)) (by omega)⟩
            case measure => simp [intOf]; omega
        · by_cases k3 : e.kind = 3
          · have hE : Hid (StatM.step s e = { s with se := s.se + 1 }) := by
              show _ = _; unfold StatM.step; rw [if_neg k1, if_neg k2, if_pos k3]
            rw [k3] at c1
            clear k1 k2 k3
            go_wp2_with fail
            go_roundw
            case rel => exact ⟨j + 1, by omega, by go_num, World.rowIs.congr (by repeat (first | with_reducible exact hR | with_reducible apply World.rowIs.drew | with_reducible apply World.rowIs.set)) (by
              rw [HS.out, hE.out]
              intro i hi
              obtain rfl | rfl | rfl | rfl | rfl | rfl | rfl : i = 0 ∨ i = 1 ∨ i = 2 ∨ i = 3 ∨ i = 4 ∨ i = 5 ∨ i = 6 := by omega
              all_goals first | rfl | (show Value.int _ _ = Value.int _ _; exact congrArg _ (max_if _ _))), hR0.of_block ((show On (w.heap.size + 1) wr _ from by repeat (first | with_reducible exact on_refl _ _ | with_reducible apply on_drewN | with_reducible apply on_drew | with_reducible apply on_setB)).block _ (by omega) (by simp)), bl_on hB (show On (w.heap.size + 1) wr _ from by repeat (first | with_reducible exact on_refl _ _ | with_reducible apply on_drewN | with_reducible apply on_drew | with_reducible apply on_setB)) (by omega)⟩
            case measure => simp [intOf]; omega
          · have hE : Hid (StatM.step s e = s) := by
              show _ = _; unfold StatM.step; rw [if_neg k1, if_neg k2, if_neg k3]
            have k1' : (e.kind == 1) = false := by simp [k1]
            have k2' : (e.kind == 2) = false := by simp [k2]
            have k3' : (e.kind == 3) = false := by simp [k3]
            clear k1 k2 k3
            go_wp2_with fail
            go_roundw
            case rel => exact ⟨j + 1, by omega, by go_num, World.rowIs.congr (by repeat (first | with_reducible exact hR | with_reducible apply World.rowIs.drew | with_reducible apply World.rowIs.set)) (by
              rw [HS.out, hE.out]
              intro i hi
              obtain rfl | rfl | rfl | rfl | rfl | rfl | rfl : i = 0 ∨ i = 1 ∨ i = 2 ∨ i = 3 ∨ i = 4 ∨ i = 5 ∨ i = 6 := by omega
              all_goals first | rfl | (show Value.int _ _ = Value.int _ _; exact congrArg _ (max_if _ _))), hR0.of_block ((show On (w.heap.size + 1) wr _ from by repeat (first | with_reducible exact on_refl _ _ | with_reducible apply on_drewN | with_reducible apply on_drew | with_reducible apply on_setB)).block _ (by omega) (by simp)), bl_on hB (show On (w.heap.size + 1) wr _ from by repeat (first | with_reducible exact on_refl _ _ | with_reducible apply on_drewN | with_reducible apply on_drew | with_reducible apply on_setB)) (by omega)⟩
            case measure => simp [intOf]; omega
    · obtain rfl : j = es.length := by omega
      rw [List.take_length] at hR
      have hbd := bd_of es
      obtain ⟨s, hs⟩ : ∃ s, ofM es = s := ⟨_, rfl⟩
      rw [hs] at hbd hR
      have HSS := Lib.hid hs
      clear hs
      obtain ⟨b1, b2, b3, b4, b5, b6, b7, b8, b9, b10, b11, b12, b13, b14, b15⟩ := hbd
      have d0 : wr.cell? ⟨w.heap.size + 1, 0, none⟩ = some (.int .i64 s.st) := hR.cell (i := 0) (by omega)
      have d1 : wr.cell? ⟨w.heap.size + 1, 1, none⟩ = some (.int .i64 s.fi) := hR.cell (i := 1) (by omega)
      have d2 : wr.cell? ⟨w.heap.size + 1, 2, none⟩ = some (.int .i64 s.va) := hR.cell (i := 2) (by omega)
      have d3 : wr.cell? ⟨w.heap.size + 1, 3, none⟩ = some (.int .i64 s.er) := hR.cell (i := 3) (by omega)
      have d4 : wr.cell? ⟨w.heap.size + 1, 4, none⟩ = some (.int .i64 s.se) := hR.cell (i := 4) (by omega)
      have d5 : wr.cell? ⟨w.heap.size + 1, 5, none⟩ = some (.int .i64 s.de) := hR.cell (i := 5) (by omega)
      have d6 : wr.cell? ⟨w.heap.size + 1, 6, none⟩ = some (.int .i64 0) := hR.cell (i := 6) (by omega)
      have z0 : wr.cell? ⟨w.heap.size, 0, none⟩ = some (.int .i64 0) := hR0.cell (i := 0) (by omega)
      have z1 : wr.cell? ⟨w.heap.size, 1, none⟩ = some (.int .i64 0) := hR0.cell (i := 1) (by omega)
      have z2 : wr.cell? ⟨w.heap.size, 2, none⟩ = some (.int .i64 0) := hR0.cell (i := 2) (by omega)
      have z3 : wr.cell? ⟨w.heap.size, 3, none⟩ = some (.int .i64 0) := hR0.cell (i := 3) (by omega)
      have z4 : wr.cell? ⟨w.heap.size, 4, none⟩ = some (.int .i64 0) := hR0.cell (i := 4) (by omega)
      have z5 : wr.cell? ⟨w.heap.size, 5, none⟩ = some (.int .i64 0) := hR0.cell (i := 5) (by omega)
      have z6 : wr.cell? ⟨w.heap.size, 6, none⟩ = some (.int .i64 0) := hR0.cell (i := 6) (by omega)
      have fz := hR.frozen
      have fy := hR0.frozen
      have hlt1 := hR.lt
      have hlt0 := hR0.lt
      have HB := Lib.hid hB
      have HO : Hid (s.op = s.st - s.fi) := b13
      clear b13 b14 hR hR0 hB h
      go_wp2_with fail
      refine bodyPost_ret (v := stV s) ?_ rfl ⟨by rw [HSS.out], ?_⟩
      · simp [results, Try.results20, go_sem, z0, z1, z2, z3, z4, z5, z6, stV, HO.out]
      · exact (((((((Below.setCell HB.out (Nat.le_succ _) _).setCell (Nat.le_refl _) _).setCell (Nat.le_refl _) _).setCell (Nat.le_refl _) _).setCell (Nat.le_refl _) _).setCell (Nat.le_refl _) _).setCell (Nat.le_refl _) _).setCell (Nat.le_refl _) _
end Go.Proofs.Ytonndofbnhnkpaa.R27
