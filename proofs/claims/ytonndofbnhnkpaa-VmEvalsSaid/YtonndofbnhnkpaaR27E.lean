/- The reference of chapter 27: how tasks ended. -/
import Derived.Test.YtonndofbnhnkpaaApp
import Derived.Test.YtonndofbnhnkpaaStatD
import Derived.Test.YtonndofbnhnkpaaStatB
import Derived.BigRegion
namespace Go.Proofs.Ytonndofbnhnkpaa.R27
open Go.RowKit Num KeyM KeyW StatM StatW StatO KeyT StatE StatP StatN App
theorem rcs_app (a b : List Ran) : rcs (a ++ b) = rcs a ++ rcs b := by unfold rcs; rw [List.flatMap_append]
theorem rcs_cut (m : List Ran) (k : Nat) : rcs m = rcs (m.take k) ++ rcs (m.drop k) := by rw [← rcs_app, List.take_append_drop]
theorem rcs_take (m : List Ran) (k : Nat) (h : k ≤ m.length) : (rcs m).take (k * 5) = rcs (m.take k) := by
  rw [rcs_cut m k, List.take_left' (by rw [rcs_len, List.length_take]; omega)]
theorem rcs_drop (m : List Ran) (k : Nat) (h : k ≤ m.length) : (rcs m).drop (k * 5) = rcs (m.drop k) := by
  rw [rcs_cut m k, List.drop_left' (by rw [rcs_len, List.length_take]; omega)]
theorem rcs_one (m : List Ran) : ∀ u ∈ rcs m, u.oneCell' = true := by
  intro u hu
  unfold rcs at hu
  rw [List.mem_flatMap] at hu
  obtain ⟨r, _, hr⟩ := hu
  simp [rc] at hr
  rcases hr with rfl | rfl | rfl | rfl <;> rfl
theorem own_cases {base n : Nat} {e : TypeId} {v : Value} {xs : List Value} {w : World} (h : w.ownsRow base e 5 v n xs) :
    (v = .slice none 0 0 ∧ n = 0) ∨ ∃ g cap, v = .slice (some ⟨g, 0, none⟩) n cap ∧ base ≤ g ∧ g < w.heap.size ∧ n ≤ cap := by
  have hlt := World.ownsRow.lt h
  obtain ⟨h1, h2⟩ := h
  rcases h2 with ⟨rfl, rfl⟩ | ⟨g, cap, cur, hv, _, _, hc, _⟩
  · exact Or.inl ⟨rfl, by simp at h1; omega⟩
  · subst hv
    exact Or.inr ⟨g, cap, rfl, (hlt g rfl).1, (hlt g rfl).2, hc⟩
def five (a b c d e : Value) (j : Nat) : Value := if j = 0 then a else if j = 1 then b else if j = 2 then c else if j = 3 then d else e
theorem row5_alloc (w : World) (a b c d e : Value) (t : TypeId) : (w.alloc (.cells #[a, b, c, d, e] t)).rowIs w.heap.size t 5 (five a b c d e) :=
  World.rowIs_alloc w #[a, b, c, d, e] t _ (fun i hi => by
    have hi : i < 5 := hi
    obtain rfl | rfl | rfl | rfl | rfl : i = 0 ∨ i = 1 ∨ i = 2 ∨ i = 3 ∨ i = 4 := by omega
    all_goals rfl)
set_option maxRecDepth 100000 in
set_option maxHeartbeats 16000000 in
theorem ends27 (A : Option Addr) (cap : Nat) (es : List Ev) (w : World) (h : RdEv w A es) (hl : es.length ≤ 1000000000000) :
    Calls Try.prog 25 #[.slice A es.length cap] w fun x w' => ∃ v, x = .returned v ∧ w'.ownsRow w.heap.size 37 5 v (endsM es).length (rcs (endsM es)) ∧ Bl w w' := by
  obtain ⟨i0, hi, hz0, hz1, hz2⟩ := info_parts info64
  go_enter Try.func25, Try.ntmps25
  go_wp2_with fail
  go_loopw [3, 4] (fun l c wr => ∃ j : Nat, j ≤ es.length ∧ c = .int .i64 j ∧ wr.ownsRow w.heap.size 37 5 l (endsM (es.take j)).length (rcs (endsM (es.take j))) ∧ Bl w wr) (fun _ c _ => es.length - (intOf c).toNat)
  case atStart => exact ⟨0, by omega, rfl, World.ownsRow_nil _ _ _ _, Bl.refl _⟩
  case round =>
    obtain ⟨j, hj, rfl, hown, hB⟩ := hrel
    by_cases hlt : j < es.length
    · obtain ⟨b, off, rfl, hc⟩ := h (by omega)
      obtain ⟨e, he⟩ : ∃ e, es[j]? = some e := ⟨_, List.getElem?_eq_getElem hlt⟩
      obtain ⟨c1, c2, c3, c4⟩ := hc j e he
      have c1 := st_cell hB c1
      have c2 := st_cell hB c2
      have c3 := st_cell hB c3
      have c4 := st_cell hB c4
      have hT : es.take (j + 1) = es.take j ++ [e] := by rw [List.take_add_one, he]; rfl
      have hE := endsM_snoc (es.take j) e
      rw [← hT] at hE
      have hml : (endsM (es.take j)).length ≤ j := by
        have h1 := endsM_len (es.take j)
        have h2 := (bd_of (es.take j)).b1
        rw [List.length_take] at h2; omega
      have b1 : (j : Int) < (es.length : Int) := by omega
      have b2 : (0 : Int) ≤ (j : Int) := by omega
      by_cases k2 : e.kind = 2
      · have k2' : (e.kind != 2) = false := by simp [k2]
        have HE : Hid (endsM (es.take (j + 1)) = ins (ran e) (endsM (es.take j))) := by show _ = _; rw [hE]; unfold stepE; rw [if_pos k2]
        have HX : Hid (rc (ran e) = [.int .i64 e.key, .int .i64 0, .int .i64 0, .int .i64 e.how, .int .i64 e.val] ∧ (ran e).key = e.key) := ⟨rfl, rfl⟩
        clear hE k2 hT hc h he
        generalize ran e = x at *
        obtain ⟨m, hm⟩ : ∃ m, endsM (es.take j) = m := ⟨_, rfl⟩
        rw [hm] at HE hown hml
        clear hm
        have hbl : b < wr.heap.size := Blk.lt_of_cell c1
        rcases own_cases hown with ⟨rfl, hm0⟩ | ⟨g, cp, rfl, hgb, hgl, hmc⟩
        all_goals
          go_wp2_with fail
          go_region
          go_wp2_with fail
          obtain ⟨W1, hW1⟩ : ∃ W1, W1 = (wr.alloc (.cells #[.int .i64 e.key, .int .i64 0, .int .i64 0, .int .i64 e.how, .int .i64 e.val] 37)).drew := ⟨_, rfl⟩
          have hB1 : Bl w W1 := by rw [hW1]; exact Bl.drew (hB.alloc _)
          have hrow : W1.rowIs wr.heap.size 37 5 (five (.int .i64 e.key) (.int .i64 0) (.int .i64 0) (.int .i64 e.how) (.int .i64 e.val)) := by rw [hW1]; exact row5_alloc _ _ _ _ _ _ _
          have hown1 := own_later (w' := W1) hown (by rw [hW1]; exact Bl.drew ((Bl.refl _).alloc _))
          have hwX : w.heap.size ≤ wr.heap.size := hB.size
          rw [← hW1]
          generalize wr.heap.size = X at *
          clear hW1 hown hB c1 c2 c3 c4
        · obtain rfl := List.eq_nil_of_length_eq_zero hm0
          have hI : ins x [] = [x] := rfl
          have HI := Lib.hid hI
          clear hI hm0
          go_loopw [6] (fun i w2 => i = .int .i64 0 ∧ Bl W1 w2) (fun i _ => 0)
          case atStart => exact ⟨rfl, Bl.refl _⟩
          case round =>
            obtain ⟨rfl, hB2⟩ := hrel
            have hB3 : Bl w wr := Bl.trans hB1 hB2
            have x0 : wr.cell? ⟨X, 0, none⟩ = some (.int .i64 e.key) := st_cell hB2 (hrow.cell (i := 0) (by omega))
            have x1 : wr.cell? ⟨X, 1, none⟩ = some (.int .i64 0) := st_cell hB2 (hrow.cell (i := 1) (by omega))
            have x2 : wr.cell? ⟨X, 2, none⟩ = some (.int .i64 0) := st_cell hB2 (hrow.cell (i := 2) (by omega))
            have x3 : wr.cell? ⟨X, 3, none⟩ = some (.int .i64 e.how) := st_cell hB2 (hrow.cell (i := 3) (by omega))
            have x4 : wr.cell? ⟨X, 4, none⟩ = some (.int .i64 e.val) := st_cell hB2 (hrow.cell (i := 4) (by omega))
            go_wp2_with fail
            go_quiet (fail)
            go_wp2_with (refine wpList_append_own_none rfl _ _ 31 rfl w.heap.size 37 i0 5 Try.underlying31 hi _ 0 [] rfl (World.ownsRow_nil _ _ _ _) rfl ?_)
            have hBq : Bl w (wr.drewN nq) := Bl.drewN hB3 _
            have x0' : (wr.drewN nq).cell? ⟨X, 0, none⟩ = some (.int .i64 e.key) := x0
            have x1' : (wr.drewN nq).cell? ⟨X, 1, none⟩ = some (.int .i64 0) := x1
            have x2' : (wr.drewN nq).cell? ⟨X, 2, none⟩ = some (.int .i64 0) := x2
            have x3' : (wr.drewN nq).cell? ⟨X, 3, none⟩ = some (.int .i64 e.how) := x3
            have x4' : (wr.drewN nq).cell? ⟨X, 4, none⟩ = some (.int .i64 e.val) := x4
            clear x0 x1 x2 x3 x4 hB3 hB2
            generalize wr.drewN nq = w2 at *
            have hs2 := hBq.size
            go_region_law (first
              | (have z1 := hs2; refine step_append_own (by rfl) _ _ 31 (by rfl) w.heap.size 37 i0 _ 5 40 Try.underlying31 hi hz0 hz1 hz2 rfl (by decide) _ 0 [] (by rfl) (World.ownsRow_nil _ _ _ _) ⟨w2.heap.size, 0, none⟩ 1 _ [.int .i64 e.key, .int .i64 0, .int .i64 0, .int .i64 e.how, .int .i64 e.val] (by rfl) (by rfl) (World.news_of_block (cs := #[.int .i64 e.key, .int .i64 0, .int .i64 0, .int .i64 e.how, .int .i64 e.val]) (t := 37) (fr := (0, 0)) (heap_alloc_new w2 _)) (by intro u hu; simp at hu; rcases hu with rfl | rfl | rfl | rfl <;> rfl) (by decide) (by decide) (by simp; omega) ?_; intro va wa howna hgra)
              | (refine step_append_none (by rfl) _ _ 31 (by rfl) w.heap.size 37 i0 5 Try.underlying31 hi va _ _ (by rfl) howna (by rfl) ?_))
            go_wp2_with fail
            have hBa : Bl w wa := Below.grown (show Below w.heap.size w (w2.alloc (.cells #[.int .i64 e.key, .int .i64 0, .int .i64 0, .int .i64 e.how, .int .i64 e.val] 37)).drew from Bl.drew (hBq.alloc _)) hgra (by simp; omega) (fun k hk => by cases hk)
            go_roundw
            case rel => exact ⟨j + 1, by omega, by go_num, by rw [HE.out, HI.out]; show wa.ownsRow _ _ _ _ 1 (rc x ++ []); rw [HX.out.1]; exact howna, hBa⟩
            case measure => simp [intOf]; omega
        · go_loopw [6] (fun i w2 => ∃ k : Nat, k ≤ m.length ∧ i = .int .i64 k ∧ Hid (∀ (q : Nat) y, q < k → m[q]? = some y → y.key ≤ x.key) ∧ Bl W1 w2) (fun i _ => m.length - (intOf i).toNat)
          case atStart => exact ⟨0, by omega, rfl, fun q y hq => by omega, Bl.refl _⟩
          case round =>
            obtain ⟨k, hk, rfl, hA, hB2⟩ := hrel
            have hB3 : Bl w wr := Bl.trans hB1 hB2
            have x0 : wr.cell? ⟨X, 0, none⟩ = some (.int .i64 e.key) := st_cell hB2 (hrow.cell (i := 0) (by omega))
            have x1 : wr.cell? ⟨X, 1, none⟩ = some (.int .i64 0) := st_cell hB2 (hrow.cell (i := 1) (by omega))
            have x2 : wr.cell? ⟨X, 2, none⟩ = some (.int .i64 0) := st_cell hB2 (hrow.cell (i := 2) (by omega))
            have x3 : wr.cell? ⟨X, 3, none⟩ = some (.int .i64 e.how) := st_cell hB2 (hrow.cell (i := 3) (by omega))
            have x4 : wr.cell? ⟨X, 4, none⟩ = some (.int .i64 e.val) := st_cell hB2 (hrow.cell (i := 4) (by omega))
            have hown2 := own_later hown1 hB2
            have hd : (k < m.length ∧ ∃ y, m[k]? = some y ∧ y.key ≤ e.key) ∨ (Hid (ins x m = m.take k ++ x :: m.drop k) ∧ (m.length ≤ k ∨ ∃ y, k < m.length ∧ m[k]? = some y ∧ ¬ y.key ≤ e.key)) := by
              by_cases hkl : k < m.length
              · obtain ⟨y, hy⟩ : ∃ y, m[k]? = some y := ⟨_, List.getElem?_eq_getElem hkl⟩
                by_cases hxy : y.key ≤ e.key
                · exact Or.inl ⟨hkl, y, hy, hxy⟩
                · refine Or.inr ⟨ins_at x m k hk (fun q y hq hy => by have := hA.out q y hq hy; omega) (fun z hz => ?_), Or.inr ⟨y, hkl, hy, hxy⟩⟩
                  rw [hy] at hz; cases hz; rw [HX.out.2]; omega
              · refine Or.inr ⟨ins_at x m k hk (fun q y hq hy => by have := hA.out q y hq hy; omega) (fun z hz => ?_), Or.inl (by omega)⟩
                rw [List.getElem?_eq_none (by omega)] at hz; cases hz
            rcases hd with ⟨hkl, y, hy, hxy⟩ | ⟨HI, hd⟩
            · have y0 : wr.cell? ⟨g, k * 5, none⟩ = some (.int .i64 y.key) := (hown2.cellAt _ (by omega)).trans (rcs_get m k 0 y hy (by omega))
              have a1 : (k : Int) < (m.length : Int) := by omega
              have a2 : (0 : Int) ≤ (k : Int) := by omega
              have HA : Hid (∀ (q : Nat) y, q < k + 1 → m[q]? = some y → y.key ≤ x.key) := by
                intro q z hq hz
                by_cases h : q = k
                · subst h; rw [hy] at hz; cases hz; rw [HX.out.2]; omega
                · exact hA.out q z (by omega) hz
              clear hy
              go_wp2_with fail
              go_quiet (fail)
              go_wp2_with fail
              go_roundw
              case rel => exact ⟨k + 1, by omega, by go_num, HA, Bl.drewN hB2 _⟩
              case measure => simp [intOf]; omega
            · have a1 : (k : Int) ≤ (m.length : Int) := by omega
              have a2 : (0 : Int) ≤ (k : Int) := by omega
              have a3 : (m.length : Int) ≤ (cp : Int) := by omega
              have a4 : (k : Int) ≤ (cp : Int) := by omega
              rcases hd with hd | hd
              case' inl =>
                have a5 : decide (k < m.length) = false := by simp; omega
                have HD := Lib.hid hd
                clear hd
              case' inr =>
                obtain ⟨y, hkl, hy, hxy⟩ := hd
                have y0 : wr.cell? ⟨g, k * 5, none⟩ = some (.int .i64 y.key) := (hown2.cellAt _ (by omega)).trans (rcs_get m k 0 y hy (by omega))
                have a5 : (k : Int) < (m.length : Int) := by omega
                clear hy
              all_goals
                go_wp2_with fail
                go_quiet (fail)
                clear a5
                go_wp2_with (refine wpList_append_own_at _ rfl _ _ 31 rfl w.heap.size 37 i0 _ 5 40 Try.underlying31 hi hz0 hz1 hz2 rfl (by decide) _ 0 [] rfl (World.ownsRow_nil _ _ _ _) ⟨g, 0, none⟩ k cp ((rcs m).take (k * 5)) rfl ?cl (src_take hown2 (k * 5)) ?c2 ?c3 ?c4 ?c5 ?_)
                case cl => rw [List.length_take, rcs_len]; omega
                case c2 => intro u hu; exact rcs_one m u (List.mem_of_mem_take hu)
                case c3 => unfold maxLen; omega
                case c4 => omega
                case c5 => have := hB3.size; simp; omega
                intro vn w3 hown3 hgr3 _ hat3
                have hBl3 := bl_of_grown hgr3
                have hw3 : wr.heap.size ≤ w3.heap.size := hBl3.size
                have hBr : Bl wr w3 := Bl.trans (Bl.drewN (Bl.refl _) nq) hBl3
                have hat : vn.ownBlock = none ∨ vn.ownBlock ≠ some g := by
                  rcases hat3 with h | h
                  · exact Or.inl h
                  · right; rw [h]; simp
                    have := hown2.lt g rfl; omega
                have hown4 := own_later hown2 hBr
                have hB4 : Bl w w3 := Bl.trans hB3 hBr
                have x0 := st_cell hBr x0
                have x1 := st_cell hBr x1
                have x2 := st_cell hBr x2
                have x3 := st_cell hBr x3
                have x4 := st_cell hBr x4
                have hws : w.heap.size ≤ w3.heap.size := hB4.size
                clear hgr3 hat3 hBl3 hown2 hB3 hB2
                have b5 : (0 : Int) ≤ (m.length : Int) := by omega
                have hown5 := World.ownsRow.alloc (show w3.drew.ownsRow _ _ _ _ _ _ from hown3) (.cells #[.int .i64 e.key, .int .i64 0, .int .i64 0, .int .i64 e.how, .int .i64 e.val] 37)
                have hown6 := World.ownsRow.alloc (show w3.drew.ownsRow _ _ _ _ _ _ from hown4) (.cells #[.int .i64 e.key, .int .i64 0, .int .i64 0, .int .i64 e.how, .int .i64 e.val] 37)
                have hB5 : Bl w (w3.drew.alloc (.cells #[.int .i64 e.key, .int .i64 0, .int .i64 0, .int .i64 e.how, .int .i64 e.val] 37)) := (Bl.drew hB4).alloc _
                have hlr : ((rcs m).drop (k * 5)).length = (m.length - k) * 5 := by rw [List.length_drop, rcs_len, Nat.sub_mul]
                have HLR := Lib.hid hlr
                have HW : Hid ((List.take (k * 5) (rcs m) ++ rc x) ++ (rcs m).drop (k * 5) = rcs (ins x m) ∧ k + 1 + (m.length - k) = (ins x m).length) := by
                  refine ⟨?_, ?_⟩
                  · rw [HI.out, rcs_app, rcs_take m k hk, rcs_drop m k hk]; unfold rcs; rw [List.flatMap_cons, List.append_assoc]
                  · rw [HI.out, List.length_append, List.length_cons, List.length_take, List.length_drop]; omega
                have HR : Hid (rc x = [.int .i64 e.key, .int .i64 0, .int .i64 0, .int .i64 e.how, .int .i64 e.val]) := HX.out.1
                clear hlr hown3 hown4
                go_wp2_with fail
                by_cases hce : cp = k
                · subst hce
                  obtain rfl : m.length = cp := by omega
                  have hdn : (rcs m).drop (m.length * 5) = [] := List.drop_eq_nil_of_le (by rw [rcs_len]; omega)
                  have HDN := Lib.hid hdn
                  clear hdn
                  go_region_law (first
                    | (have z1 := hws; refine step_append_at (by rfl) _ _ 31 (by rfl) w.heap.size 37 i0 _ 5 40 Try.underlying31 hi hz0 hz1 hz2 rfl (by decide) vn m.length _ (by rfl) hown5 ⟨w3.heap.size, 0, none⟩ 1 _ (rc x) (by rfl) (by rw [HR.out]; rfl) (by rw [HR.out]; exact World.news_of_block (cs := #[.int .i64 e.key, .int .i64 0, .int .i64 0, .int .i64 e.how, .int .i64 e.val]) (t := 37) (fr := (0, 0)) (heap_alloc_new w3 _)) (by rw [HR.out]; intro u hu; simp at hu; rcases hu with rfl | rfl | rfl | rfl <;> rfl) (by unfold maxLen; omega) (by omega) (by simp; omega) ?_; intro va wa howna hgra hata)
                    | (refine step_append_at (by rfl) _ _ 31 (by rfl) w.heap.size 37 i0 _ 5 40 Try.underlying31 hi hz0 hz1 hz2 rfl (by decide) va (m.length + 1) _ (by rfl) howna ⟨g, 0, none⟩ 0 _ [] (by rfl) (by rfl) (fun j u hu => by simp at hu) (fun u hu => by simp at hu) (by unfold maxLen; omega) (by omega) (by have := hB5.size; exact Nat.le_trans this hgra.size) ?_; intro vb wb hownb hgrb hatb))
                  go_wp2_with fail
                  have hBa : Bl w wa := Below.grown hB5 hgra hB5.size (fun q hq => (World.ownsRow.lt hown5 q hq).1)
                  have hBb : Bl w wb := Below.grown (show Below w.heap.size w wa from hBa) hgrb hBa.size (fun q hq => (World.ownsRow.lt howna q hq).1)
                  have hw1 := HW.out.1
                  have hw2 := HW.out.2
                  rw [HDN.out] at hw1
                  rw [Nat.sub_self] at hw2
                  rw [hw1, hw2] at hownb
                  clear hw1 hw2
                  go_roundw
                  case rel => exact ⟨j + 1, by omega, by go_num, by rw [HE.out]; exact hownb, hBb⟩
                  case measure => simp [intOf]; omega
                · have b6 : (k : Int) < (cp : Int) := by omega
                  have b7 : (cp == k) = false := by simpa using hce
                  go_region_law (first
                    | (have z1 := hws; refine step_append_at (by rfl) _ _ 31 (by rfl) w.heap.size 37 i0 _ 5 40 Try.underlying31 hi hz0 hz1 hz2 rfl (by decide) vn k _ (by rfl) hown5 ⟨w3.heap.size, 0, none⟩ 1 _ (rc x) (by rfl) (by rw [HR.out]; rfl) (by rw [HR.out]; exact World.news_of_block (cs := #[.int .i64 e.key, .int .i64 0, .int .i64 0, .int .i64 e.how, .int .i64 e.val]) (t := 37) (fr := (0, 0)) (heap_alloc_new w3 _)) (by rw [HR.out]; intro u hu; simp at hu; rcases hu with rfl | rfl | rfl | rfl <;> rfl) (by unfold maxLen; omega) (by omega) (by simp; omega) ?_; intro va wa howna hgra hata)
                    | (have hlA := World.ownsRow.kept hown6 hgra (Or.inr (by rcases hat with h | h <;> (first | (rw [h]; simp [Value.ownBlock]) | exact fun q => h q.symm))); refine step_append_at (by rfl) _ _ 31 (by rfl) w.heap.size 37 i0 _ 5 40 Try.underlying31 hi hz0 hz1 hz2 rfl (by decide) va (k + 1) _ (by rfl) howna ⟨g, k * 5, none⟩ (m.length - k) _ ((rcs m).drop (k * 5)) (by rfl) HLR.out (src_drop hlA (k * 5)) (fun u hu => rcs_one m u (List.mem_of_mem_drop hu)) (by unfold maxLen; omega) (by omega) (by have := hB5.size; exact Nat.le_trans this hgra.size) ?_; intro vb wb hownb hgrb hatb))
                  go_wp2_with fail
                  have hBa : Bl w wa := Below.grown hB5 hgra hB5.size (fun q hq => (World.ownsRow.lt hown5 q hq).1)
                  have hBb : Bl w wb := Below.grown (show Below w.heap.size w wa from hBa) hgrb hBa.size (fun q hq => (World.ownsRow.lt howna q hq).1)
                  rw [HW.out.1, HW.out.2] at hownb
                  go_roundw
                  case rel => exact ⟨j + 1, by omega, by go_num, by rw [HE.out]; exact hownb, hBb⟩
                  case measure => simp [intOf]; omega
      · have k2' : (e.kind != 2) = true := by simp [k2]
        have HE : Hid (endsM (es.take (j + 1)) = endsM (es.take j)) := by show _ = _; rw [hE]; unfold stepE; rw [if_neg k2]
        clear hE k2 hT hc
        go_wp2_with fail
        go_roundw
        case rel => exact ⟨j + 1, by omega, by go_num, by rw [HE.out]; exact hown, hB⟩
        case measure => simp [intOf]; omega
    · obtain rfl : j = es.length := by omega
      rw [List.take_length] at hown
      go_wp2_with fail
      go_ret
      exact ⟨_, rfl, hown, hB⟩
end Go.Proofs.Ytonndofbnhnkpaa.R27
