/- The reference's evaluator: what ran, in the order of keys. The reference's evaluator: what a store into its block turns. The reference's evaluator: forks. The reference's evaluator: a fork that goes. The reference's evaluator: any instruction but a fork. The reference's evaluator: a task to its end. The reference of chapter 5: a program that may run. The reference's evaluator: a program's run. The reference's evaluator: a run that is cut. -/
import Derived.Test.YtonndofbnhnkpaaGreatRfJ1
import Derived.Test.YtonndofbnhnkpaaGreatStatD
import Derived.Test.YtonndofbnhnkpaaGreatR27E
import Derived.Test.YtonndofbnhnkpaaGreatEvB
import Derived.Deep.DeepCutAuto
import Derived.Deep.CutBlock
import Derived.Deep.LoopGhost
import Derived.Test.YtonndofbnhnkpaaGreatPutC
import Derived.Test.YtonndofbnhnkpaaGreatVmW
import Derived.BigQuiet
import Derived.Deep.QuietTactic
set_option linter.unusedVariables false
set_option linter.unusedSimpArgs false
set_option linter.unusedSectionVars false
namespace Go.Proofs.YtonndofbnhnkpaaGreat.Rf
open Go.RowKit Num KeyM KeyW StatW StatO StatE Blk VmA VmG Prg EvM App R27
theorem rcs5_len (f : List FRan) : (rcs5 f).length = f.length * 5 := by
  induction f with
  | nil => rfl
  | cons r m ih => unfold rcs5 at *; rw [List.flatMap_cons, List.length_append, ih, List.length_cons]; simp [rc5]; omega
theorem rcs5_get (m : List FRan) (i f : Nat) (r : FRan) (h : m[i]? = some r) (hf : f < 5) : (rcs5 m)[i * 5 + f]? = (rc5 r)[f]? := by
  induction m generalizing i with
  | nil => simp at h
  | cons s m ih =>
    unfold rcs5 at *
    rw [List.flatMap_cons]
    cases i with
    | zero =>
      simp at h; subst h
      rw [List.getElem?_append_left (by simp [rc5]; omega)]; simp
    | succ i =>
      rw [List.getElem?_append_right (by simp [rc5]; omega)]
      have : (i + 1) * 5 + f - (rc5 s).length = i * 5 + f := by simp [rc5]; omega
      rw [this]
      exact ih i (by simpa using h)
theorem rcs5_app (a b : List FRan) : rcs5 (a ++ b) = rcs5 a ++ rcs5 b := by unfold rcs5; rw [List.flatMap_append]
theorem rcs5_cut (m : List FRan) (k : Nat) : rcs5 m = rcs5 (m.take k) ++ rcs5 (m.drop k) := by rw [← rcs5_app, List.take_append_drop]
theorem rcs5_take (m : List FRan) (k : Nat) (h : k ≤ m.length) : (rcs5 m).take (k * 5) = rcs5 (m.take k) := by
  rw [rcs5_cut m k, List.take_left' (by rw [rcs5_len, List.length_take]; omega)]
theorem rcs5_drop (m : List FRan) (k : Nat) (h : k ≤ m.length) : (rcs5 m).drop (k * 5) = rcs5 (m.drop k) := by
  rw [rcs5_cut m k, List.drop_left' (by rw [rcs5_len, List.length_take]; omega)]
theorem put_at (x : FRan) : ∀ (m : List FRan) (k : Nat), k ≤ m.length → (∀ j y, j < k → m[j]? = some y → y.key < x.key) → (∀ y, m[k]? = some y → ¬ y.key < x.key) → put m x = m.take k ++ x :: m.drop k
  | [], k, hk, _, _ => by simp at hk; subst hk; rfl
  | y :: m, 0, _, _, h2 => by unfold put; rw [if_neg (h2 y rfl)]; rfl
  | y :: m, k + 1, hk, h1, h2 => by
    unfold put
    rw [if_pos (h1 0 y (by omega) rfl), put_at x m k (by simpa using hk) (fun j z hj hz => h1 (j + 1) z (by omega) (by simpa using hz)) (fun z hz => h2 z (by simpa using hz))]
    rfl
theorem info37 : (Tryz.prog.info? 67).map (fun i => (i.zero, i.size, i.bytes)) = some (some (.agg #[.int .i64 0, .int .i64 0, .int .i64 0, .int .i64 0, .int .i64 0]), 5, 40) := by kernel_rfl
def ranV (x : FRan) : Value := .agg #[.int .i64 x.key, .int .i64 x.fn, .int .i64 x.arg, .int .i64 x.how, .int .i64 x.val]
theorem one5 {m : List FRan} : ∀ u ∈ rcs5 m, u.oneCell' = true := by
  intro u hu
  unfold rcs5 at hu
  rw [List.mem_flatMap] at hu
  obtain ⟨r, _, hr⟩ := hu
  simp [rc5] at hr
  rcases hr with rfl | rfl | rfl | rfl | rfl <;> rfl
set_option maxRecDepth 100000 in
set_option maxHeartbeats 16000000 in
theorem put_any (x : FRan) (base : Nat) (m : List FRan) (v : Value) (w : World) (h : w.ownsRow base 67 5 v m.length (rcs5 m)) (hl : m.length ≤ 100000) (hbs : base ≤ w.heap.size) :
    Calls Tryz.prog 41 #[v, ranV x] w fun e w' => ∃ v', e = .returned v' ∧ w'.ownsRow base 67 5 v' (m.length + 1) (rcs5 (put m x)) ∧ Bl w w' := by
  obtain ⟨i0, hi, hz0, hz1, hz2⟩ := info_parts info37
  have HX : Hid (rc5 x = [.int .i64 x.key, .int .i64 x.fn, .int .i64 x.arg, .int .i64 x.how, .int .i64 x.val]) := rfl
  have hrow := row5_alloc w (.int .i64 x.key) (.int .i64 x.fn) (.int .i64 x.arg) (.int .i64 x.how) (.int .i64 x.val) 67
  have hown1 := h.alloc (.cells #[.int .i64 x.key, .int .i64 x.fn, .int .i64 x.arg, .int .i64 x.how, .int .i64 x.val] 67)
  unfold ranV
  rcases own_cases h with ⟨rfl, hm0⟩ | ⟨g, cp, rfl, hgb, hgl, hmc⟩
  · obtain rfl := List.eq_nil_of_length_eq_zero hm0
    have HP : Hid (put [] x = [x]) := rfl
    clear h hown1 hm0
    go_enter Tryz.func41, Tryz.ntmps41
    go_wp2_with fail
    have hB1 : Bl w (w.alloc (.cells #[.int .i64 x.key, .int .i64 x.fn, .int .i64 x.arg, .int .i64 x.how, .int .i64 x.val] 67)) := (Bl.refl _).alloc _
    generalize (w.alloc (.cells #[.int .i64 x.key, .int .i64 x.fn, .int .i64 x.arg, .int .i64 x.how, .int .i64 x.val] 67)) = W1 at *
    obtain ⟨X, hX⟩ : ∃ X, w.heap.size = X := ⟨_, rfl⟩
    rw [hX] at hrow hbs ⊢
    have HXX := Lib.hid hX
    clear hX
    go_loopw [5] (fun i w2 => i = .int .i64 0 ∧ Bl W1 w2) (fun i _ => 0)
    case atStart => exact ⟨rfl, Bl.refl _⟩
    case round =>
      obtain ⟨rfl, hB2⟩ := hrel
      have hB3 : Bl w wr := Bl.trans hB1 hB2
      have x0 : wr.cell? ⟨X, 0, none⟩ = some (.int .i64 x.key) := st_cell hB2 (hrow.cell (i := 0) (by omega))
      have x1 : wr.cell? ⟨X, 1, none⟩ = some (.int .i64 x.fn) := st_cell hB2 (hrow.cell (i := 1) (by omega))
      have x2 : wr.cell? ⟨X, 2, none⟩ = some (.int .i64 x.arg) := st_cell hB2 (hrow.cell (i := 2) (by omega))
      have x3 : wr.cell? ⟨X, 3, none⟩ = some (.int .i64 x.how) := st_cell hB2 (hrow.cell (i := 3) (by omega))
      have x4 : wr.cell? ⟨X, 4, none⟩ = some (.int .i64 x.val) := st_cell hB2 (hrow.cell (i := 4) (by omega))
      have hbw : base ≤ wr.heap.size := by have := hB3.size; have := HXX.out; omega
      go_wp2_with fail
      go_quiet (fail)
      go_wp2_with (refine wpList_append_own_none rfl _ _ 30 rfl base 67 i0 5 Tryz.underlying30 hi _ 0 [] rfl (World.ownsRow_nil _ _ _ _) rfl ?_)
      have hBq : Bl w (wr.drewN nq) := Bl.drewN hB3 _
      have x0' : (wr.drewN nq).cell? ⟨X, 0, none⟩ = some (.int .i64 x.key) := x0
      have x1' : (wr.drewN nq).cell? ⟨X, 1, none⟩ = some (.int .i64 x.fn) := x1
      have x2' : (wr.drewN nq).cell? ⟨X, 2, none⟩ = some (.int .i64 x.arg) := x2
      have x3' : (wr.drewN nq).cell? ⟨X, 3, none⟩ = some (.int .i64 x.how) := x3
      have x4' : (wr.drewN nq).cell? ⟨X, 4, none⟩ = some (.int .i64 x.val) := x4
      have hs2 : base ≤ (wr.drewN nq).heap.size := hbw
      clear x0 x1 x2 x3 x4 hB3 hB2 hbw
      generalize wr.drewN nq = w2 at *
      go_region_law (first
        | (have z1 := hs2; refine step_append_own (by rfl) _ _ 30 (by rfl) base 67 i0 _ 5 40 Tryz.underlying30 hi hz0 hz1 hz2 rfl (by decide) _ 0 [] (by rfl) (World.ownsRow_nil _ _ _ _) ⟨w2.heap.size, 0, none⟩ 1 _ [.int .i64 x.key, .int .i64 x.fn, .int .i64 x.arg, .int .i64 x.how, .int .i64 x.val] (by rfl) (by rfl) (World.news_of_block (cs := #[.int .i64 x.key, .int .i64 x.fn, .int .i64 x.arg, .int .i64 x.how, .int .i64 x.val]) (t := 67) (fr := (0, 0)) (heap_alloc_new w2 _)) (by intro u hu; simp at hu; rcases hu with rfl | rfl | rfl | rfl | rfl <;> rfl) (by decide) (by decide) (by simp; omega) ?_; intro va wa howna hgra)
        | (refine step_append_none (by rfl) _ _ 30 (by rfl) base 67 i0 5 Tryz.underlying30 hi va _ _ (by rfl) howna (by rfl) ?_))
      go_wp2_with fail
      have hBa : Bl w wa := Below.grown (show Below w.heap.size w (w2.alloc (.cells #[.int .i64 x.key, .int .i64 x.fn, .int .i64 x.arg, .int .i64 x.how, .int .i64 x.val] 67)).drew from Bl.drew (hBq.alloc _)) hgra (by have := hBq.size; simp; omega) (fun k hk => by cases hk)
      go_ret
      exact ⟨va, rfl, by rw [HP.out]; show wa.ownsRow _ _ _ _ 1 (rc5 x ++ []); rw [HX.out]; exact howna, hBa⟩
  · clear h
    go_enter Tryz.func41, Tryz.ntmps41
    go_wp2_with fail
    have hB1 : Bl w (w.alloc (.cells #[.int .i64 x.key, .int .i64 x.fn, .int .i64 x.arg, .int .i64 x.how, .int .i64 x.val] 67)) := (Bl.refl _).alloc _
    generalize (w.alloc (.cells #[.int .i64 x.key, .int .i64 x.fn, .int .i64 x.arg, .int .i64 x.how, .int .i64 x.val] 67)) = W1 at *
    obtain ⟨X, hX⟩ : ∃ X, w.heap.size = X := ⟨_, rfl⟩
    rw [hX] at hrow hbs ⊢
    have HXX := Lib.hid hX
    clear hX
    go_loopw [5] (fun i w2 => ∃ k : Nat, k ≤ m.length ∧ i = .int .i64 k ∧ Hid (∀ (q : Nat) y, q < k → m[q]? = some y → y.key < x.key) ∧ Bl W1 w2) (fun i _ => m.length - (intOf i).toNat)
    case atStart => exact ⟨0, by omega, rfl, fun q y hq => by omega, Bl.refl _⟩
    case round =>
      obtain ⟨k, hk, rfl, hA, hB2⟩ := hrel
      have hB3 : Bl w wr := Bl.trans hB1 hB2
      have x0 : wr.cell? ⟨X, 0, none⟩ = some (.int .i64 x.key) := st_cell hB2 (hrow.cell (i := 0) (by omega))
      have x1 : wr.cell? ⟨X, 1, none⟩ = some (.int .i64 x.fn) := st_cell hB2 (hrow.cell (i := 1) (by omega))
      have x2 : wr.cell? ⟨X, 2, none⟩ = some (.int .i64 x.arg) := st_cell hB2 (hrow.cell (i := 2) (by omega))
      have x3 : wr.cell? ⟨X, 3, none⟩ = some (.int .i64 x.how) := st_cell hB2 (hrow.cell (i := 3) (by omega))
      have x4 : wr.cell? ⟨X, 4, none⟩ = some (.int .i64 x.val) := st_cell hB2 (hrow.cell (i := 4) (by omega))
      have hown2 := KeyT.own_later hown1 hB2
      have hd : (k < m.length ∧ ∃ y, m[k]? = some y ∧ y.key < x.key) ∨ (Hid (put m x = m.take k ++ x :: m.drop k) ∧ (m.length ≤ k ∨ ∃ y, k < m.length ∧ m[k]? = some y ∧ ¬ y.key < x.key)) := by
        by_cases hkl : k < m.length
        · obtain ⟨y, hy⟩ : ∃ y, m[k]? = some y := ⟨_, List.getElem?_eq_getElem hkl⟩
          by_cases hxy : y.key < x.key
          · exact Or.inl ⟨hkl, y, hy, hxy⟩
          · refine Or.inr ⟨put_at x m k hk (fun q y hq hy => hA.out q y hq hy) (fun z hz => ?_), Or.inr ⟨y, hkl, hy, hxy⟩⟩
            rw [hy] at hz; cases hz; exact hxy
        · refine Or.inr ⟨put_at x m k hk (fun q y hq hy => hA.out q y hq hy) (fun z hz => ?_), Or.inl (by omega)⟩
          rw [List.getElem?_eq_none (by omega)] at hz; cases hz
      rcases hd with ⟨hkl, y, hy, hxy⟩ | ⟨HI, hd⟩
      · have y0 : wr.cell? ⟨g, k * 5, none⟩ = some (.int .i64 y.key) := (hown2.cellAt _ (by omega)).trans (rcs5_get m k 0 y hy (by omega))
        have a1 : (k : Int) < (m.length : Int) := by omega
        have a2 : (0 : Int) ≤ (k : Int) := by omega
        have HA : Hid (∀ (q : Nat) y, q < k + 1 → m[q]? = some y → y.key < x.key) := by
          intro q z hq hz
          by_cases h : q = k
          · subst h; rw [hy] at hz; cases hz; exact hxy
          · exact hA.out q z (by omega) hz
        clear hy
        go_wp2_with fail
        go_quiet (fail)
        go_wp2_with fail
        go_roundw
        case rel => exact ⟨k + 1, by omega, by go_num, HA, Bl.drewN hB2 _⟩
        case measure => simp [intOf]; omega
      · have a1 : (k : Int) ≤ (m.length : Int) := by omega
        have a2 : (0 : Int) ≤ (k : Int) := by omega
        have a3 : (m.length : Int) ≤ (cp : Int) := by omega
        have a4 : (k : Int) ≤ (cp : Int) := by omega
        rcases hd with hd | hd
        case' inl =>
          have a5 : decide (k < m.length) = false := by simp; omega
          have HD := Lib.hid hd
          clear hd
        case' inr =>
          obtain ⟨y, hkl, hy, hxy⟩ := hd
          have y0 : wr.cell? ⟨g, k * 5, none⟩ = some (.int .i64 y.key) := (hown2.cellAt _ (by omega)).trans (rcs5_get m k 0 y hy (by omega))
          have a5 : (k : Int) < (m.length : Int) := by omega
          clear hy
        all_goals
          go_wp2_with fail
          go_quiet (fail)
          clear a5
          go_wp2_with (refine wpList_append_own_at _ rfl _ _ 30 rfl base 67 i0 _ 5 40 Tryz.underlying30 hi hz0 hz1 hz2 rfl (by decide) _ 0 [] rfl (World.ownsRow_nil _ _ _ _) ⟨g, 0, none⟩ k cp ((rcs5 m).take (k * 5)) rfl ?cl (src_take hown2 (k * 5)) ?c2 ?c3 ?c4 ?c5 ?_)
          case cl => rw [List.length_take, rcs5_len]; omega
          case c2 => intro u hu; exact one5 u (List.mem_of_mem_take hu)
          case c3 => unfold maxLen; omega
          case c4 => omega
          case c5 => have := hB3.size; have := HXX.out; simp; omega
          intro vn w3 hown3 hgr3 _ hat3
          have hBl3 := bl_of_grown hgr3
          have hw3 : wr.heap.size ≤ w3.heap.size := hBl3.size
          have hBr : Bl wr w3 := Bl.trans (Bl.drewN (Bl.refl _) nq) hBl3
          have hat : vn.ownBlock = none ∨ vn.ownBlock ≠ some g := by
            rcases hat3 with h | h
            · exact Or.inl h
            · right; rw [h]; simp
              have := hown2.lt g rfl; omega
          have hvn : ∀ q, vn.ownBlock = some q → w.heap.size ≤ q := by
            intro q hq
            have h3 := hB3.size
            rcases hat3 with h | h
            · rw [h] at hq; cases hq
            · rw [h] at hq; simp at hq; omega
          have HVN := Lib.hid hvn
          clear hvn
          have hown4 := KeyT.own_later hown2 hBr
          have hB4 : Bl w w3 := Bl.trans hB3 hBr
          have x0 := st_cell hBr x0
          have x1 := st_cell hBr x1
          have x2 := st_cell hBr x2
          have x3 := st_cell hBr x3
          have x4 := st_cell hBr x4
          have hws : base ≤ w3.heap.size := by have := hB4.size; have := HXX.out; omega
          clear hgr3 hat3 hBl3 hown2 hB3 hB2
          have b5 : (0 : Int) ≤ (m.length : Int) := by omega
          have hown5 := World.ownsRow.alloc (show w3.drew.ownsRow _ _ _ _ _ _ from hown3) (.cells #[.int .i64 x.key, .int .i64 x.fn, .int .i64 x.arg, .int .i64 x.how, .int .i64 x.val] 67)
          have hown6 := World.ownsRow.alloc (show w3.drew.ownsRow _ _ _ _ _ _ from hown4) (.cells #[.int .i64 x.key, .int .i64 x.fn, .int .i64 x.arg, .int .i64 x.how, .int .i64 x.val] 67)
          have hB5 : Bl w (w3.drew.alloc (.cells #[.int .i64 x.key, .int .i64 x.fn, .int .i64 x.arg, .int .i64 x.how, .int .i64 x.val] 67)) := (Bl.drew hB4).alloc _
          have hlr : ((rcs5 m).drop (k * 5)).length = (m.length - k) * 5 := by rw [List.length_drop, rcs5_len, Nat.sub_mul]
          have HLR := Lib.hid hlr
          have HW : Hid ((List.take (k * 5) (rcs5 m) ++ rc5 x) ++ (rcs5 m).drop (k * 5) = rcs5 (put m x) ∧ k + 1 + (m.length - k) = m.length + 1) := by
            refine ⟨?_, by omega⟩
            rw [HI.out, rcs5_app, rcs5_take m k hk, rcs5_drop m k hk]; unfold rcs5; rw [List.flatMap_cons, List.append_assoc]
          clear hlr hown3 hown4
          go_wp2_with fail
          by_cases hce : cp = k
          · subst hce
            obtain rfl : m.length = cp := by omega
            have hdn : (rcs5 m).drop (m.length * 5) = [] := List.drop_eq_nil_of_le (by rw [rcs5_len]; omega)
            have HDN := Lib.hid hdn
            clear hdn
            go_region_law (first
              | (have z1 := hws; refine step_append_at (by rfl) _ _ 30 (by rfl) base 67 i0 _ 5 40 Tryz.underlying30 hi hz0 hz1 hz2 rfl (by decide) vn m.length _ (by rfl) hown5 ⟨w3.heap.size, 0, none⟩ 1 _ (rc5 x) (by rfl) (by rw [HX.out]; rfl) (by rw [HX.out]; exact World.news_of_block (cs := #[.int .i64 x.key, .int .i64 x.fn, .int .i64 x.arg, .int .i64 x.how, .int .i64 x.val]) (t := 67) (fr := (0, 0)) (heap_alloc_new w3 _)) (by rw [HX.out]; intro u hu; simp at hu; rcases hu with rfl | rfl | rfl | rfl | rfl <;> rfl) (by unfold maxLen; omega) (by omega) (by simp; omega) ?_; intro va wa howna hgra hata)
              | (refine step_append_at (by rfl) _ _ 30 (by rfl) base 67 i0 _ 5 40 Tryz.underlying30 hi hz0 hz1 hz2 rfl (by decide) va (m.length + 1) _ (by rfl) howna ⟨g, 0, none⟩ 0 _ [] (by rfl) (by rfl) (fun j u hu => by simp at hu) (fun u hu => by simp at hu) (by unfold maxLen; omega) (by omega) (by have := hgra.size; simp at this; omega) ?_; intro vb wb hownb hgrb hatb))
            go_wp2_with fail
            have hBa : Bl w wa := Below.grown hB5 hgra hB5.size (fun q hq => HVN.out q hq)
            have hva : ∀ q, va.ownBlock = some q → w.heap.size ≤ q := by
              intro q hq
              have h3 := hB4.size
              rcases hata with h | h
              · rw [h] at hq; exact HVN.out q hq
              · rw [h] at hq; simp at hq; omega
            have hBb : Bl w wb := Below.grown (show Below w.heap.size w wa from hBa) hgrb hBa.size (fun q hq => hva q hq)
            have hw1 := HW.out.1
            have hw2 := HW.out.2
            rw [HDN.out] at hw1
            rw [hw1] at hownb
            clear hw1 hw2
            go_ret
            exact ⟨vb, rfl, hownb, hBb⟩
          · have b6 : (k : Int) < (cp : Int) := by omega
            have b7 : (cp == k) = false := by simpa using hce
            go_region_law (first
              | (have z1 := hws; refine step_append_at (by rfl) _ _ 30 (by rfl) base 67 i0 _ 5 40 Tryz.underlying30 hi hz0 hz1 hz2 rfl (by decide) vn k _ (by rfl) hown5 ⟨w3.heap.size, 0, none⟩ 1 _ (rc5 x) (by rfl) (by rw [HX.out]; rfl) (by rw [HX.out]; exact World.news_of_block (cs := #[.int .i64 x.key, .int .i64 x.fn, .int .i64 x.arg, .int .i64 x.how, .int .i64 x.val]) (t := 67) (fr := (0, 0)) (heap_alloc_new w3 _)) (by rw [HX.out]; intro u hu; simp at hu; rcases hu with rfl | rfl | rfl | rfl | rfl <;> rfl) (by unfold maxLen; omega) (by omega) (by simp; omega) ?_; intro va wa howna hgra hata)
              | (have hlA := World.ownsRow.kept hown6 hgra (Or.inr (by rcases hat with h | h <;> (first | (rw [h]; simp [Value.ownBlock]) | exact fun q => h q.symm))); refine step_append_at (by rfl) _ _ 30 (by rfl) base 67 i0 _ 5 40 Tryz.underlying30 hi hz0 hz1 hz2 rfl (by decide) va (k + 1) _ (by rfl) howna ⟨g, k * 5, none⟩ (m.length - k) _ ((rcs5 m).drop (k * 5)) (by rfl) HLR.out (src_drop hlA (k * 5)) (fun u hu => one5 u (List.mem_of_mem_drop hu)) (by unfold maxLen; omega) (by omega) (by have := hgra.size; simp at this; omega) ?_; intro vb wb hownb hgrb hatb))
            go_wp2_with fail
            have hBa : Bl w wa := Below.grown hB5 hgra hB5.size (fun q hq => HVN.out q hq)
            have hva : ∀ q, va.ownBlock = some q → w.heap.size ≤ q := by
              intro q hq
              have h3 := hB4.size
              rcases hata with h | h
              · rw [h] at hq; exact HVN.out q hq
              · rw [h] at hq; simp at hq; omega
            have hBb : Bl w wb := Below.grown (show Below w.heap.size w wa from hBa) hgrb hBa.size (fun q hq => hva q hq)
            rw [HW.out.1, HW.out.2] at hownb
            go_ret
            exact ⟨vb, rfl, hownb, hBb⟩
end Go.Proofs.YtonndofbnhnkpaaGreat.Rf
set_option linter.unusedVariables false
set_option linter.unusedSimpArgs false
set_option linter.unusedSectionVars false
namespace Go.Proofs.YtonndofbnhnkpaaGreat.Rf
open Go.RowKit Num KeyM KeyW StatW Blk VmA VmG Prg EvM
theorem IsR.ne {c : Fx} {base : Nat} {w : World} {S : RS} (h : IsR c base w S) : c.R ≠ c.FB ∧ c.R ≠ c.WB ∧ c.FB ≠ c.WB := by
  obtain ⟨⟨vr, h1, h2⟩, h3, h4, h5, h6⟩ := h
  have ne : ∀ {b m : Nat} {t : TypeId} {g : Nat → Value} {b' m' : Nat} {t' : TypeId} {g' : Nat → Value}, w.rowIs b t m g → w.rowIs b' t' m' g' → t ≠ t' → b ≠ b' := fun hr hr' ht' e => by
    obtain ⟨cur, hcur⟩ := row_type hr
    exact ty_ne hr' hcur ht' e
  exact ⟨ne h1 h3 (by decide), ne h1 h4 (by decide), ne h3 h4 (by decide)⟩
/-- A store into one of the numbers. -/
theorem isR_R {c : Fx} {base : Nat} {w : World} {S S' : RS} (h : IsR c base w S) (j : Nat) (x : Value) (hj : j < 11) (hr : S'.ran = S.ran) (hf : S'.futs = S.futs) (hw : S'.was = S.was) (hl : ∀ vr, (rL c vr S).set j x = rL c vr S') :
    IsR c base (w.setCell ⟨c.R, j, none⟩ x) S' := by
  obtain ⟨n1, n2, n3⟩ := h.ne
  obtain ⟨⟨vr, h1, h2⟩, h3, h4, h5, h6⟩ := h
  have hch : Ch (fun k => k = c.R) w (w.setCell ⟨c.R, j, none⟩ x) := Ch.set (S := fun k => k = c.R) (p := ⟨c.R, _, none⟩) (Ch.refl _ _) (Or.inl rfl) _
  refine ⟨⟨vr, ?_, ?_⟩, ?_, ?_, h5.later hch (fun i hi e => by omega), h6⟩
  · have := ofL_set (l := rL c vr S) j x (by show j < 11; exact hj) (h1.set j x)
    rw [hl] at this
    exact this
  · rw [hr]
    refine own_ch h2 hch (fun k hk e => ?_)
    obtain ⟨cur, hcur⟩ := own_type h2 hk
    exact ty_ne h1 hcur (by decide) e
  · rw [hf]; exact row_setO h3 (fun e => n1 e.symm) _
  · rw [hw]; exact row_setO h4 (fun e => n2 e.symm) _
theorem isR_steps {c : Fx} {base : Nat} {w : World} {S : RS} (h : IsR c base w S) (v : Int) : IsR c base (w.setCell ⟨c.R, 7, none⟩ (.int .i64 v)) { S with steps := v } :=
  isR_R h 7 _ (by omega) rfl rfl rfl (fun _ => rfl)
theorem isR_forks {c : Fx} {base : Nat} {w : World} {S : RS} (h : IsR c base w S) (v : Int) : IsR c base (w.setCell ⟨c.R, 8, none⟩ (.int .i64 v)) { S with forks := v } :=
  isR_R h 8 _ (by omega) rfl rfl rfl (fun _ => rfl)
theorem isR_over {c : Fx} {base : Nat} {w : World} {S : RS} (h : IsR c base w S) (v : Bool) : IsR c base (w.setCell ⟨c.R, 10, none⟩ (.bool v)) { S with over := v } :=
  isR_R h 10 _ (by omega) rfl rfl rfl (fun _ => rfl)
/-- What ran turns. -/
theorem isR_ran {c : Fx} {base : Nat} {w : World} {S : RS} (h : IsR c base w S) (v : Value) (ran : List FRan) (ho : w.ownsRow base 67 5 v ran.length (rcs5 ran)) : IsR c base (w.setCell ⟨c.R, 4, none⟩ v) { S with ran := ran } := by
  obtain ⟨n1, n2, n3⟩ := h.ne
  obtain ⟨⟨vr, h1, h2⟩, h3, h4, h5, h6⟩ := h
  have hch : Ch (fun k => k = c.R) w (w.setCell ⟨c.R, 4, none⟩ v) := Ch.set (S := fun k => k = c.R) (p := ⟨c.R, _, none⟩) (Ch.refl _ _) (Or.inl rfl) _
  refine ⟨⟨v, ?_, ?_⟩, row_setO h3 (fun e => n1 e.symm) _, row_setO h4 (fun e => n2 e.symm) _, h5.later hch (fun i hi e => by omega), h6⟩
  · have := ofL_set (l := rL c vr S) 4 v (by show 4 < 11; omega) (h1.set 4 v)
    exact this
  · refine own_ch ho hch (fun k hk e => ?_)
    obtain ⟨cur, hcur⟩ := own_type ho hk
    exact ty_ne h1 hcur (by decide) e
/-- A task's block is none of the evaluation's. -/
theorem IsR.far_t {c : Fx} {base B n : Nat} {w : World} {S : RS} {f : Nat → Value} (h : IsR c base w S) (ht : w.rowIs B 100 n f) : B ≠ c.R ∧ B ≠ c.FB ∧ B ≠ c.WB := by
  obtain ⟨⟨vr, h1, h2⟩, h3, h4, h5, h6⟩ := h
  have ne : ∀ {b m : Nat} {t : TypeId} {g : Nat → Value}, w.rowIs b t m g → t ≠ 100 → B ≠ b := fun hr ht' e => by
    obtain ⟨cur, hcur⟩ := row_type ht
    exact ty_ne hr hcur (fun e => ht' e.symm) e
  exact ⟨ne h1 (by decide), ne h3 (by decide), ne h4 (by decide)⟩
theorem isT_ch {c : Fx} {B : Nat} {w w' : World} {t : RT} (h : IsT w B t) (hn : B ≠ c.R ∧ B ≠ c.FB ∧ B ≠ c.WB) (hc : Ch (Evs c) w w') : IsT w' B t :=
  hc.row h (fun e => by rcases e with e | e | e; exact hn.1 e; exact hn.2.1 e; exact hn.2.2 e)
/-- The world, for what is known of it. -/
theorem at_world {P : Program} {code : Code} {Q : Exit → Act → World → Prop} {a : Act} {w : World} (F : World → Prop) (hF : F w) (h : ∀ w', F w' → Code.wp P code Q a w') : Code.wp P code Q a w := h w hF
end Go.Proofs.YtonndofbnhnkpaaGreat.Rf
set_option linter.unusedVariables false
set_option linter.unusedSimpArgs false
set_option linter.unusedSectionVars false
namespace Go.Proofs.YtonndofbnhnkpaaGreat.Rf
open Go.RowKit Num KeyM KeyW StatW Blk VmA VmG Prg EvM
set_option maxRecDepth 100000 in
set_option maxHeartbeats 4000000 in
theorem ot_fork_deep (c : Fx) (base B : Nat) (t : RT) (S : RS) (a b x : Int) (w : World) (h : IsT w B t) (hR : IsR c base w S) (hd : c.depth ≤ dep t.key) :
    Calls Tryz.prog 71 #[.pointer (some ⟨c.R, 0, none⟩), .pointer (some ⟨B, 0, none⟩), insV ⟨9, a, b, x⟩] w fun e w' => e = .returned (.tuple #[]) ∧ IsT w' B { t with how := 6 } ∧ Ch (· = B) w w' := by
  have HT : Hid (w.rowIs B 100 27 (rtF t)) := h
  have HR := Lib.hid hR
  have hlt := h.row.lt
  have hl1 : B < w.heap.size + 1 := by omega
  have hl2 : B < w.heap.size + 1 + 1 := by omega
  obtain ⟨e20, e21, e22, e23, e24, e25, e26⟩ := ct_nums h
  have f25 := h.row.frozen 25
  have f23 := h.row.frozen 23
  have hfar := hR.far_t h.row
  obtain ⟨⟨vr, r1, r2⟩, r3, r4, r5, r6⟩ := hR
  have lR := r1.lt
  have q2 : w.cell? ⟨c.R, 2, none⟩ = some (.int .i64 c.depth) := r1.cell (i := 2) (by omega)
  have nRB : ¬ c.R = B := fun e => hfar.1 e.symm
  have hdep := fun w => Ref6.depth_any t.key w
  clear h r1 r2 r3 r4 r5 r6
  unfold insV
  by_cases hm : 1000 ≤ t.forks
  all_goals
    go_enter Tryz.func71, Tryz.ntmps71
    go_wp2_with fail
    go_quiet ((go_at_call 96; exact Calls.quiet_of_same ((hdep _).mono fun _ _ ⟨p, q⟩ => ⟨p, q.symm⟩)))
    go_wp2_with fail
    refine bodyPost_ret (v := .tuple #[]) (by simp [results, Tryz.results71, go_sem]) rfl ⟨rfl, ?_, (by repeat (first | with_reducible exact Ch.refl _ _ | (with_reducible refine Ch.setN ?_ (by omega) _) | with_reducible apply Ch.setB | with_reducible apply Ch.alloc | with_reducible apply Ch.drew | with_reducible apply Ch.drewN | (with_reducible refine Ch.trans ?_ (by assumption))))⟩
  · exact World.rowIs.congr (t_how (t := { t with how := 9 }) (by repeat (first | with_reducible exact HT.out | with_reducible apply World.rowIs.alloc | with_reducible apply World.rowIs.drew | with_reducible apply row_drewN | with_reducible apply World.rowIs.set | (with_reducible refine IsT.row (t_how ?_)) | (with_reducible refine row_setO ?_ (by omega) _)))) (fun i _ => rfl)
  · exact t_how (by repeat (first | with_reducible exact HT.out | with_reducible apply World.rowIs.alloc | with_reducible apply World.rowIs.drew | with_reducible apply row_drewN | with_reducible apply World.rowIs.set | (with_reducible refine IsT.row (t_how ?_)) | (with_reducible refine row_setO ?_ (by omega) _)))
set_option maxRecDepth 100000 in
set_option maxHeartbeats 4000000 in
theorem ot_fork_many (c : Fx) (base B : Nat) (t : RT) (S : RS) (a b x : Int) (w : World) (h : IsT w B t) (hR : IsR c base w S) (hd : ¬ c.depth ≤ dep t.key) (hm : 1000 ≤ t.forks) :
    Calls Tryz.prog 71 #[.pointer (some ⟨c.R, 0, none⟩), .pointer (some ⟨B, 0, none⟩), insV ⟨9, a, b, x⟩] w fun e w' => e = .returned (.tuple #[]) ∧ IsT w' B { t with how := 9 } ∧ Ch (· = B) w w' := by
  have HT : Hid (w.rowIs B 100 27 (rtF t)) := h
  have HR := Lib.hid hR
  have hlt := h.row.lt
  have hl1 : B < w.heap.size + 1 := by omega
  have hl2 : B < w.heap.size + 1 + 1 := by omega
  obtain ⟨e20, e21, e22, e23, e24, e25, e26⟩ := ct_nums h
  have f25 := h.row.frozen 25
  have f23 := h.row.frozen 23
  have hfar := hR.far_t h.row
  obtain ⟨⟨vr, r1, r2⟩, r3, r4, r5, r6⟩ := hR
  have lR := r1.lt
  have q2 : w.cell? ⟨c.R, 2, none⟩ = some (.int .i64 c.depth) := r1.cell (i := 2) (by omega)
  have nRB : ¬ c.R = B := fun e => hfar.1 e.symm
  have hdep := fun w => Ref6.depth_any t.key w
  clear h r1 r2 r3 r4 r5 r6
  unfold insV
  go_enter Tryz.func71, Tryz.ntmps71
  go_wp2_with fail
  go_quiet ((go_at_call 96; exact Calls.quiet_of_same ((hdep _).mono fun _ _ ⟨p, q⟩ => ⟨p, q.symm⟩)))
  go_wp2_with fail
  exact bodyPost_ret (v := .tuple #[]) (by simp [results, Tryz.results71, go_sem]) rfl ⟨rfl, t_how (by repeat (first | with_reducible exact HT.out | with_reducible apply World.rowIs.alloc | with_reducible apply World.rowIs.drew | with_reducible apply row_drewN | with_reducible apply World.rowIs.set | (with_reducible refine IsT.row (t_how ?_)) | (with_reducible refine row_setO ?_ (by omega) _))), (by repeat (first | with_reducible exact Ch.refl _ _ | (with_reducible refine Ch.setN ?_ (by omega) _) | with_reducible apply Ch.setB | with_reducible apply Ch.alloc | with_reducible apply Ch.drew | with_reducible apply Ch.drewN | (with_reducible refine Ch.trans ?_ (by assumption))))⟩
end Go.Proofs.YtonndofbnhnkpaaGreat.Rf
set_option linter.unusedVariables false
set_option linter.unusedSimpArgs false
set_option linter.unusedSectionVars false
namespace Go.Proofs.YtonndofbnhnkpaaGreat.Rf
open Go.RowKit Num KeyM KeyW StatW Blk VmA VmG Prg EvM
/-- Behind a new task's end. -/
def Aft (c : Fx) (base B X : Nat) (t : RT) (S : RS) (x : Nat → Value) (how val : Int) (w : World) (e : Value) (wc : World) : Prop :=
  ∃ E, e = .pointer (some ⟨E, 0, none⟩) ∧ wc.cell? ⟨E, 0, none⟩ = some (.int .i64 how) ∧ wc.cell? ⟨E, 1, none⟩ = some (.int .i64 val) ∧ IsT wc B t ∧ IsR c base wc S ∧ wc.rowIs X 53 4 x ∧ Ch (Evs c) w wc
theorem IsR.on35 {c : Fx} {base E n : Nat} {w w' : World} {S : RS} {f : Nat → Value} (h : IsR c base w S) (ht : w.rowIs E 29 n f) (hK : c.K ≤ E) (hc : Ch (· = E) w w') : IsR c base w' S := by
  obtain ⟨⟨vr, h1, h2⟩, h3, h4, h5, h6⟩ := h
  have ne : ∀ {b m : Nat} {t : TypeId} {g : Nat → Value}, w.rowIs b t m g → t ≠ 29 → ¬ b = E := fun hr ht' e => by
    obtain ⟨cur, hcur⟩ := row_type hr
    exact ty_ne ht hcur ht' e
  refine ⟨⟨vr, hc.row h1 (ne h1 (by decide)), own_ch h2 hc (fun k hk e => ?_)⟩, hc.row h3 (ne h3 (by decide)), hc.row h4 (ne h4 (by decide)), h5.on hc hK, h6⟩
  obtain ⟨cur, hcur⟩ := own_type h2 hk
  exact ty_ne ht hcur (by decide) e
theorem IsR.lts {c : Fx} {base : Nat} {w : World} {S : RS} (h : IsR c base w S) : c.R < w.heap.size ∧ c.FB < w.heap.size ∧ c.WB < w.heap.size := by
  obtain ⟨⟨vr, h1, h2⟩, h3, h4, h5, h6⟩ := h
  exact ⟨h1.lt, h3.lt, h4.lt⟩
theorem x_far {c : Fx} {base X : Nat} {w : World} {S : RS} {f : Nat → Value} (h : IsR c base w S) (hx : w.rowIs X 53 4 f) : X ≠ c.R ∧ X ≠ c.FB ∧ X ≠ c.WB := by
  obtain ⟨⟨vr, h1, h2⟩, h3, h4, h5, h6⟩ := h
  have ne : ∀ {b m : Nat} {t : TypeId} {g : Nat → Value}, w.rowIs b t m g → t ≠ 53 → X ≠ b := fun hr ht' e => by
    obtain ⟨cur, hcur⟩ := row_type hx
    exact ty_ne hr hcur (fun e => ht' e.symm) e
  exact ⟨ne h1 (by decide), ne h3 (by decide), ne h4 (by decide)⟩
theorem aft_late {c : Fx} {base B X : Nat} {t : RT} {S1 S2 : RS} {x : Nat → Value} {how val : Int} {w1 w5 : World} (hT : IsT w1 B t) (hR : IsR c base w1 S1) (hx : w1.rowIs X 53 4 x) (hR5 : IsR c base w5 S2) (hc5 : Ch (Evs c) w1.drew w5) :
    Aft c base B X t S2 x how val w1 (.pointer (some ⟨w5.heap.size, 0, none⟩)) (w5.alloc (.cells #[.int .i64 how, .int .i64 val] 29)) := by
  have hc : Ch (Evs c) w1 w5 := Ch.trans ((Ch.refl _ _).drew) hc5
  have hn := x_far hR hx
  exact ⟨_, rfl, by go_simp, by go_simp, World.rowIs.alloc (isT_ch hT (hR.far_t hT.row) hc).row _, hR5.bl ((Bl.refl _).alloc _), (hc.row hx (fun e => by rcases e with e | e | e; exact hn.1 e; exact hn.2.1 e; exact hn.2.2 e)).alloc _, hc.alloc _⟩
theorem aft_early {c : Fx} {base B X : Nat} {t : RT} {S1 S2 : RS} {x : Nat → Value} {how val : Int} {w1 w5 : World} (hT : IsT w1 B t) (hR : IsR c base w1 S1) (hx : w1.rowIs X 53 4 x) (hR5 : IsR c base w5 S2)
    (hc5 : Ch (Evs c) (w1.alloc (.cells #[.int .i64 0, .int .i64 0] 29)).drew w5) (hE : w5.rowIs w1.heap.size 29 2 (fun _ => .int .i64 0)) :
    Aft c base B X t S2 x how val w1 (.pointer (some ⟨w1.heap.size, 0, none⟩)) ((w5.setCell ⟨w1.heap.size, 0, none⟩ (.int .i64 how)).setCell ⟨w1.heap.size, 1, none⟩ (.int .i64 val)) := by
  have hc : Ch (Evs c) w1 w5 := Ch.trans (((Ch.refl _ _).alloc _).drew) hc5
  have hn := x_far hR hx
  have lt := hR.lts
  have hr : ((w5.setCell ⟨w1.heap.size, 0, none⟩ (.int .i64 how)).setCell ⟨w1.heap.size, 1, none⟩ (.int .i64 val)).rowIs w1.heap.size 29 2 (fun j => if j = 1 then .int .i64 val else if j = 0 then .int .i64 how else .int .i64 0) := (hE.set 0 _).set 1 _
  have hch : Ch (· = w1.heap.size) w5 ((w5.setCell ⟨w1.heap.size, 0, none⟩ (.int .i64 how)).setCell ⟨w1.heap.size, 1, none⟩ (.int .i64 val)) := ((Ch.refl _ _).setB _).setB _
  have hT5 := isT_ch hT (hR.far_t hT.row) hc
  have hx5 := hc.row hx (fun e => by rcases e with e | e | e; exact hn.1 e; exact hn.2.1 e; exact hn.2.2 e)
  have lB := hT.row.lt
  have lX := hx.lt
  refine ⟨_, rfl, hr.cell (i := 0) (by omega), hr.cell (i := 1) (by omega), row_setO (row_setO hT5.row (by omega) _) (by omega) _, hR5.on35 hE (by have := hR5.far.1; omega) hch, row_setO (row_setO hx5 (by omega) _) (by omega) _, ?_⟩
  exact (hc.set (Or.inr (Nat.le_refl _)) _).set (Or.inr (Nat.le_refl _)) _
/-- What a new task must do. -/
def Child (c : Fx) (base : Nat) (fn : Nat) (arg key : Int) (S S2 : RS) (how val : Int) : Prop :=
  ∀ w, IsR c base w S → base ≤ w.heap.size → Calls Tryz.prog 22 #[.pointer (some ⟨c.R, 0, none⟩), .int .i64 fn, .int .i64 arg, .int .i64 key] w fun e w' => e = .returned (.agg #[.int .i64 how, .int .i64 val]) ∧ IsR c base w' S2 ∧ Ch (Evs c) w w'
set_option maxRecDepth 100000 in
set_option maxHeartbeats 8000000 in
theorem ot_fork (c : Fx) (base B : Nat) (t : RT) (S S2 : RS) (a b x : Nat) (hw vl : Int) (w : World) (h : IsT w B t) (hR : IsR c base w S) (hbs : base ≤ w.heap.size) (hd : ¬ c.depth ≤ dep t.key) (hd5 : dep t.key < 5) (hm : ¬ 1000 ≤ t.forks) (hm0 : 0 ≤ t.forks) (hS0 : 0 ≤ S.forks) (hS1 : S.forks ≤ 100000) (hk : chk t.key = true) (h0 : t.how = 0)
    (ha : a < 4) (hx : x < 8) (hKB : c.K ≤ B) (hC : Child c base b (t.regs x) (child t.key (t.forks + 1)) { S with forks := S.forks + 1 } S2 hw vl) :
    Calls Tryz.prog 71 #[.pointer (some ⟨c.R, 0, none⟩), .pointer (some ⟨B, 0, none⟩), insV ⟨9, a, b, x⟩] w fun e w' => e = .returned (.tuple #[]) ∧ IsT w' B { t with forks := t.forks + 1, has := upd t.has a true, hh := upd t.hh a hw, hv := upd t.hv a vl } ∧ IsR c base w' S2 ∧ Ch (fun k => Evs c k ∨ k = B) w w' := by
  have HT : Hid (w.rowIs B 100 27 (rtF t)) := h
  have HR := Lib.hid hR
  have hlt := h.row.lt
  have hl1 : B < w.heap.size + 1 := by omega
  have hl2 : B < w.heap.size + 1 + 1 := by omega
  obtain ⟨e20, e21, e22, e23, e24, e25, e26⟩ := ct_nums h
  have f25 := h.row.frozen 25
  have f23 := h.row.frozen 23
  have hfar := hR.far_t h.row
  obtain ⟨⟨vr, r1, r2⟩, r3, r4, r5, r6⟩ := hR
  have lR := r1.lt
  have q2 : w.cell? ⟨c.R, 2, none⟩ = some (.int .i64 c.depth) := r1.cell (i := 2) (by omega)
  have nRB : ¬ c.R = B := fun e => hfar.1 e.symm
  have hdep := fun w => Ref6.depth_any t.key w
  have q8 : w.cell? ⟨c.R, 8, none⟩ = some (.int .i64 S.forks) := r1.cell (i := 8) (by omega)
  have g8 := r1.frozen 8
  have hch := fun w => Ref6.child_yes t.key (t.forks + 1) w hk hd5 (by omega) (by omega)
  obtain ⟨ck, hck⟩ : ∃ ck, child t.key (t.forks + 1) = ck := ⟨_, rfl⟩
  rw [hck] at hch hC
  rw [h0] at e25
  unfold Child at hC
  have HC := Lib.hid hC
  clear h r1 r2 r3 r4 r5 r6 hC hck h0
  unfold insV
  go_enter Tryz.func71, Tryz.ntmps71
  go_wp2_with fail
  go_quiet ((go_at_call 96; exact Calls.quiet_of_same ((hdep _).mono fun _ _ ⟨p, q⟩ => ⟨p, q.symm⟩)))
  go_wp2_with fail
  go_quiet ((go_at_call 97; exact Calls.quiet_of_same ((hch _).mono fun _ _ ⟨p, q⟩ => ⟨p, q.symm⟩)))
  go_wp2_with fail
  refine at_world (fun w' => IsT w' B { t with forks := t.forks + 1 } ∧ IsR c base w' { S with forks := S.forks + 1 } ∧ w'.rowIs w.heap.size 53 4 (four (.int .i64 9) (.int .i64 a) (.int .i64 b) (.int .i64 x)) ∧ Ch (fun k => Evs c k ∨ k = B) w w') ?_ ?_
  · refine ⟨?_, ?_, ?_, ?_⟩
    · show World.rowIs _ _ _ _ _
      refine row_drewN (row_setO (t_forks (World.rowIs.set (row_drewN (World.rowIs.alloc HT.out _) _) 23 _)).row (fun e => nRB e.symm) _) _
    · have h1 : IsR c base ((w.alloc (.cells #[.int .i64 9, .int .i64 a, .int .i64 b, .int .i64 x] 53)).drewN nq) S := HR.out.bl (Bl.drewN ((Bl.refl _).alloc _) _)
      refine IsR.bl ?_ (Bl.drewN (Bl.refl _) _)
      refine isR_forks (S := S) (IsR.on HR.out HT.out hKB ?_) (S.forks + 1)
      exact (((Ch.refl _ _).alloc _).drewN _).setB _
    · refine row_drewN (row_setO (row_setO (row_drewN (row4_alloc w _ _ _ _ 53) _) (by omega) _) (by omega) _) _
    · exact ((((((Ch.refl _ _).alloc _).drewN _).set (Or.inl (Or.inr rfl)) _).set (Or.inl (Or.inl (Or.inl rfl))) _).drewN _)
  · rintro w1 ⟨hT1, hR1, hx1, hch1⟩
    have hs1 := hch1.size
    have hbs1 : base ≤ w1.heap.size := by omega
    have HI : Hid (∀ w2, Bl w1 w2 → IsR c base w2 { S with forks := S.forks + 1 }) := fun w2 hb => hR1.bl hb
    obtain ⟨⟨k0, k1, k2, k3⟩, _⟩ := row4_cells hx1
    have cx := ct_reg hT1 hx
    have nx : (x : Int) < 8 := by omega
    have zx : (0 : Int) ≤ (x : Int) := by omega
    have HX1 := Lib.hid hx1
    have HT1 := Lib.hid hT1
    have HR1 := Lib.hid hR1
    have HCH := Lib.hid hch1
    have hlx := hx1.lt
    have hlB := hT1.row.lt
    clear hx1 hT1 hR1 hch1 e20 e21 e22 e23 e24 e25 e26 f25 f23 q2 q8 g8 HT HR hdep hch
    have HE : Hid (∀ w5, Ch (Evs c) (w1.alloc (.cells #[.int .i64 0, .int .i64 0] 29)).drew w5 → w5.rowIs w1.heap.size 29 2 (fun _ => .int .i64 0)) := by
      intro w5 h5
      have h2 : (w1.alloc (.cells #[.int .i64 0, .int .i64 0] 29)).drew.rowIs w1.heap.size 29 2 (fun _ => .int .i64 0) := World.rowIs_alloc w1 #[.int .i64 0, .int .i64 0] 29 _ (fun i hi => by
        have hi : i < 2 := hi
        obtain rfl | rfl : i = 0 ∨ i = 1 := by omega
        all_goals rfl)
      refine h5.row h2 (fun e => ?_)
      obtain ⟨⟨vr, r1, r2⟩, r3, r4, r5, r6⟩ := HR1.out
      have := r1.lt; have := r3.lt; have := r4.lt
      rcases e with e | e | e <;> omega
    go_cut [8] (fun e wc => Aft c base B w.heap.size { t with forks := t.forks + 1 } S2 (four (.int .i64 9) (.int .i64 a) (.int .i64 b) (.int .i64 x)) hw vl w1 e wc)
    case first =>
     go_region_with (first
      | (go_at_call 22; with_reducible refine (HC.out (w1.alloc (.cells #[.int .i64 0, .int .i64 0] 29)).drew (HI.out _ (by repeat (first | with_reducible exact Bl.refl _ | with_reducible assumption | with_reducible apply Bl.drew | with_reducible apply Bl.drewN | with_reducible apply Bl.alloc))) (by simp; omega)).mono ?_; rintro e w5 ⟨rfl, hR5, hc5⟩; have hE := HE.out _ hc5; have z0 := hE.cell (i := 0) (by omega); have z1 := hE.cell (i := 1) (by omega); have y0 := hE.frozen 0; have y1 := hE.frozen 1; have zl := hE.lt)
      | (go_at_call 22; with_reducible refine (HC.out w1.drew (HI.out _ (by repeat (first | with_reducible exact Bl.refl _ | with_reducible assumption | with_reducible apply Bl.drew | with_reducible apply Bl.drewN | with_reducible apply Bl.alloc))) (by simp; omega)).mono ?_; rintro e w5 ⟨rfl, hR5, hc5⟩))
     all_goals (
      go_wp2_with fail
      go_meet
      first
        | (refine aft_late (S1 := { S with forks := S.forks + 1 }) HT1.out HR1.out HX1.out hR5 ?_; assumption)
        | (refine aft_early (S1 := { S with forks := S.forks + 1 }) HT1.out HR1.out HX1.out hR5 ?_ ?_ <;> assumption))
    case rest =>
      obtain ⟨E, rfl, E0, E1, hT6, hR6, hx6, hc6⟩ := hcut
      have ka := ct_has hT6 ha
      have fka := hT6.row.frozen (8 + a)
      obtain ⟨ia, ja⟩ := ct_hand hT6 ha
      have fia := hT6.row.frozen (12 + a * 2)
      have fja := hT6.row.frozen (12 + a * 2 + 1)
      have ma : (a : Int) < 4 := by omega
      have ya : 0 ≤ (a : Int) := by omega
      have o1a : ¬ 12 + a * 2 = 8 + a := by omega
      have o2a : ¬ 12 + a * 2 + 1 = 8 + a := by omega
      obtain ⟨⟨l0, l1, l2, l3⟩, _⟩ := row4_cells hx6
      have HT6 := Lib.hid hT6
      have HR6 := Lib.hid hR6
      have HC6 := Lib.hid hc6
      have lB6 := hT6.row.lt
      clear hT6 hR6 hx6 hc6 k0 k1 k2 k3 cx HE
      go_wp2_with fail
      go_region
      all_goals
        go_wp2_with fail
        go_end0
        refine ⟨rfl, ?_, ?_, ?_⟩
        · exact t_hand ha (World.rowIs.set (World.rowIs.set (IsT.row (t_has ha (World.rowIs.set HT6.out _ _))) _ _) _ _)
        · exact IsR.on HR6.out HT6.out hKB (by repeat (first | with_reducible exact Ch.refl _ _ | with_reducible apply Ch.setB | with_reducible apply Ch.drew | with_reducible apply Ch.drewN))
        · exact Ch.trans HCH.out (Ch.trans (HC6.out.mono (fun i _ e => Or.inl e)) (Ch.mono (show Ch (· = B) _ _ from by repeat (first | with_reducible exact Ch.refl _ _ | with_reducible apply Ch.setB | with_reducible apply Ch.drew | with_reducible apply Ch.drewN)) (fun i _ e => Or.inr e)))
end Go.Proofs.YtonndofbnhnkpaaGreat.Rf
set_option linter.unusedVariables false
set_option linter.unusedSimpArgs false
set_option linter.unusedSectionVars false
namespace Go.Proofs.YtonndofbnhnkpaaGreat.Rf
open Go.RowKit Num KeyM KeyW StatW Blk VmA VmG Prg EvM
/-- What an instruction leaves. -/
def Left (c : Fx) (base B : Nat) (w : World) (t : RT) (S : RS) (w' : World) : Prop := IsT w' B t ∧ IsR c base w' S ∧ Ch (fun k => Evs c k ∨ k = B) w w'
theorem left_do {c : Fx} {base B : Nat} {w w' : World} {t u : RT} {S : RS} (hT : IsT w B t) (hR : IsR c base w S) (hK : c.K ≤ B) (h1 : IsT w' B u) (h2 : Ch (· = B) w w') : Left c base B w u S w' :=
  ⟨h1, hR.on hT.row hK h2, h2.mono (fun _ _ e => Or.inr e)⟩
set_option maxRecDepth 100000 in
set_option maxHeartbeats 1000000 in
theorem one_other (R B : Nat) (op a b x : Int) (w : World) (Φ : World → Prop) (ho : op = 9 ∨ op = 10 ∨ op = 11 ∨ op = 12 ∨ op = 13 ∨ op = 14)
    (h : Calls Tryz.prog 71 #[.pointer (some ⟨R, 0, none⟩), .pointer (some ⟨B, 0, none⟩), insV ⟨op, a, b, x⟩] (w.alloc (.cells #[.int .i64 op, .int .i64 a, .int .i64 b, .int .i64 x] 53)) fun e w' => e = .returned (.tuple #[]) ∧ Φ w') :
    Calls Tryz.prog 40 #[.pointer (some ⟨R, 0, none⟩), .pointer (some ⟨B, 0, none⟩), insV ⟨op, a, b, x⟩] w fun e w' => e = .returned (.tuple #[]) ∧ Φ w' := by
  unfold insV at *
  rcases ho with rfl | rfl | rfl | rfl | rfl | rfl
  all_goals
    have H := Lib.hid h
    clear h
    go_enter Tryz.func40, Tryz.ntmps40
    go_wp2_with fail
    refine H.out.mono ?_
    rintro e w2 ⟨rfl, hw⟩
    have HW := Lib.hid hw
    clear hw
    go_wp2_with fail
    go_end0
    exact ⟨rfl, HW.out⟩
theorem one_any (c : Fx) (base B : Nat) (t : RT) (S : RS) (i : Ins) (nf n : Nat) (w : World) (hT : IsT w B t) (hR : IsR c base w S) (hK : c.K ≤ B) (hi : InsIn nf c.futs n i) (h9 : i.op ≠ 9) :
    Calls Tryz.prog 40 #[.pointer (some ⟨c.R, 0, none⟩), .pointer (some ⟨B, 0, none⟩), insV i] w fun e w' => e = .returned (.tuple #[]) ∧ Left c base B w (oneM t S i).1 (oneM t S i).2 w' := by
  obtain ⟨op, a, b, x⟩ := i
  obtain ⟨hok, h7, h8, _, h11, h12⟩ := hi
  have hT1 : IsT (w.alloc (.cells #[.int .i64 op, .int .i64 a, .int .i64 b, .int .i64 x] 53)) B t := World.rowIs.alloc hT.row _
  have hR1 : IsR c base (w.alloc (.cells #[.int .i64 op, .int .i64 a, .int .i64 b, .int .i64 x] 53)) S := hR.bl ((Bl.refl _).alloc _)
  have hch : ∀ {S : Nat → Prop} {w'}, Ch S (w.alloc (.cells #[.int .i64 op, .int .i64 a, .int .i64 b, .int .i64 x] 53)) w' → Ch S w w' := fun h => Ch.trans ((Ch.refl _ _).alloc _) h
  have fin : ∀ {u : RT} {w' : World}, IsT w' B u → Ch (· = B) (w.alloc (.cells #[.int .i64 op, .int .i64 a, .int .i64 b, .int .i64 x] 53)) w' → Left c base B w u S w' := fun h1 h2 => ⟨h1, hR1.on hT1.row hK h2, (hch h2).mono (fun _ _ e => Or.inr e)⟩
  unfold InsOk Rg at hok
  simp only at hok h7 h8 h9 h11 h12
  rcases hok with ⟨rfl, ha, hb, hc⟩ | ⟨ho, ha, hb, hc⟩ | ⟨rfl, ha, hb, hc⟩ | ⟨rfl, ha, hb, hc⟩ | ⟨rfl, ha, hb, hc⟩ | ⟨rfl, ha, hb, hc⟩ | ⟨rfl, ha, hb, hc⟩ | ⟨rfl, ha, hb, hc⟩ | ⟨rfl, ha, hb, hc⟩ | ⟨rfl, ha, hb, hc⟩ | ⟨rfl, ha, hb, hc⟩
  · obtain ⟨a, rfl⟩ := Int.eq_ofNat_of_zero_le ha.1
    exact (do_const c.R B t a b x w hT (by omega)).mono fun e w' ⟨h1, h2, h3⟩ => ⟨h1, left_do hT hR hK h2 h3⟩
  · obtain ⟨a, rfl⟩ := Int.eq_ofNat_of_zero_le ha.1
    obtain ⟨b, rfl⟩ := Int.eq_ofNat_of_zero_le hb.1
    obtain ⟨x, rfl⟩ := Int.eq_ofNat_of_zero_le hc.1
    rcases ho with rfl | rfl | rfl | rfl | rfl
    · exact (do_add c.R B t a b x w hT (by omega) (by omega) (by omega)).mono fun e w' ⟨h1, h2, h3⟩ => ⟨h1, left_do hT hR hK h2 h3⟩
    · exact (do_sub c.R B t a b x w hT (by omega) (by omega) (by omega)).mono fun e w' ⟨h1, h2, h3⟩ => ⟨h1, left_do hT hR hK h2 h3⟩
    · exact (do_mul c.R B t a b x w hT (by omega) (by omega) (by omega)).mono fun e w' ⟨h1, h2, h3⟩ => ⟨h1, left_do hT hR hK h2 h3⟩
    · by_cases hz : wrap32 (t.regs x) = 0
      · have e1 : oneM t S ⟨5, a, b, x⟩ = (t.ends 2, S) := by show (if wrap32 (t.reg x) = 0 then _ else _) = _; exact if_pos hz
        rw [e1]
        exact (do_div_no c.R B t a b x w hT (by omega) (by omega) (by simpa using hz)).mono fun e w' ⟨h1, h2, h3⟩ => ⟨h1, left_do hT hR hK h2 h3⟩
      · have e1 : oneM t S ⟨5, a, b, x⟩ = (t.setReg a (divq (t.reg b) (t.reg x)), S) := by show (if wrap32 (t.reg x) = 0 then _ else _) = _; exact if_neg hz
        rw [e1]
        exact (do_div c.R B t a b x w hT (by omega) (by omega) (by omega) (by simpa using hz)).mono fun e w' ⟨h1, h2, h3⟩ => ⟨h1, left_do hT hR hK h2 h3⟩
    · exact (do_less c.R B t a b x w hT (by omega) (by omega) (by omega)).mono fun e w' ⟨h1, h2, h3⟩ => ⟨h1, left_do hT hR hK h2 h3⟩
  · exact (do_jump c.R B t a b x w hT).mono fun e w' ⟨h1, h2, h3⟩ => ⟨h1, left_do hT hR hK h2 h3⟩
  · obtain ⟨a, rfl⟩ := Int.eq_ofNat_of_zero_le ha.1
    by_cases hz : t.regs a = 0
    · have e1 : oneM t S ⟨8, a, b, x⟩ = ({ t with place := b }, S) := by show (if t.reg a = 0 then _ else _) = _; exact if_pos hz
      rw [e1]
      exact (do_zero_yes c.R B t a b x w hT (by omega) hz).mono fun e w' ⟨h1, h2, h3⟩ => ⟨h1, left_do hT hR hK h2 h3⟩
    · have e1 : oneM t S ⟨8, a, b, x⟩ = (t, S) := by show (if t.reg a = 0 then _ else _) = _; exact if_neg hz
      rw [e1]
      exact (do_zero_no c.R B t a b x w hT (by omega) (by simpa using hz)).mono fun e w' ⟨h1, h2, h3⟩ => ⟨h1, left_do hT hR hK h2 h3⟩
  · exact absurd rfl h9
  · obtain ⟨a, rfl⟩ := Int.eq_ofNat_of_zero_le ha.1
    obtain ⟨b, rfl⟩ := Int.eq_ofNat_of_zero_le hb.1
    refine one_other c.R B 10 a b x w _ (by simp) ?_
    cases h0 : t.has b
    · have e1 : oneM t S ⟨10, a, b, x⟩ = (t.ends 7, S) := by show (if t.has b = false then _ else _) = _; exact if_pos h0
      rw [e1]
      exact (ot_join_no c.R B t a b x _ hT1 (by omega) h0).mono fun e w' ⟨h1, h2, h3⟩ => ⟨h1, fin h2 h3⟩
    · by_cases hh : t.hh b = 1
      · have e1 : oneM t S ⟨10, a, b, x⟩ = (({ t with has := upd t.has b false }).setReg a (t.hv b), S) := by
          show (if t.has b = false then _ else if t.hh b = 1 then _ else _) = _
          rw [if_neg (by rw [h0]; simp), if_pos hh]; rfl
        rw [e1]
        exact (ot_join c base B t S a b x _ hT1 hR1 (by omega) (by omega) h0 hh).mono fun e w' ⟨h1, h2, h3⟩ => ⟨h1, fin h2 h3⟩
      · have e1 : oneM t S ⟨10, a, b, x⟩ = ({ t with has := upd t.has b false, how := t.hh b }, S) := by
          show (if t.has b = false then _ else if t.hh b = 1 then _ else _) = _
          rw [if_neg (by rw [h0]; simp), if_neg hh]; rfl
        rw [e1]
        exact (ot_join_bad c base B t S a b x _ hT1 hR1 (by omega) h0 (by simpa using hh)).mono fun e w' ⟨h1, h2, h3⟩ => ⟨h1, fin h2 h3⟩
  · obtain ⟨a, rfl⟩ := Int.eq_ofNat_of_zero_le ha.1
    obtain ⟨b, rfl⟩ := Int.eq_ofNat_of_zero_le hb.1
    have hfa := h11 rfl
    refine one_other c.R B 11 a b x w _ (by simp) ?_
    cases h0 : S.was a
    · have e1 : oneM t S ⟨11, a, b, x⟩ = (t, { S with was := upd S.was a true, futs := upd S.futs a (t.reg b) }) := by show (if S.was a = true then _ else _) = _; exact if_neg (by rw [h0]; simp)
      rw [e1]
      exact (ot_set c base B t S a b x _ hT1 hR1 (by omega) (by omega) h0).mono fun e w' ⟨h1, h2, h3, h4⟩ => ⟨h1, h2, h3, (hch h4).mono (fun _ _ e => Or.inl e)⟩
    · have e1 : oneM t S ⟨11, a, b, x⟩ = (t.ends 3, S) := by show (if S.was a = true then _ else _) = _; exact if_pos h0
      rw [e1]
      exact (ot_set_twice c base B t S a b x _ hT1 hR1 (by omega) h0).mono fun e w' ⟨h1, h2, h3⟩ => ⟨h1, fin h2 h3⟩
  · obtain ⟨a, rfl⟩ := Int.eq_ofNat_of_zero_le ha.1
    obtain ⟨b, rfl⟩ := Int.eq_ofNat_of_zero_le hb.1
    have hfb := h12 rfl
    refine one_other c.R B 12 a b x w _ (by simp) ?_
    cases h0 : S.was b
    · have e1 : oneM t S ⟨12, a, b, x⟩ = (t.ends 4, S) := by show (if S.was b = false then _ else _) = _; exact if_pos h0
      rw [e1]
      exact (ot_get_no c base B t S a b x _ hT1 hR1 (by omega) h0).mono fun e w' ⟨h1, h2, h3⟩ => ⟨h1, fin h2 h3⟩
    · have e1 : oneM t S ⟨12, a, b, x⟩ = (t.setReg a (S.futs b), S) := by show (if S.was b = false then _ else _) = _; exact if_neg (by rw [h0]; simp)
      rw [e1]
      exact (ot_get c base B t S a b x _ hT1 hR1 (by omega) (by omega) h0).mono fun e w' ⟨h1, h2, h3⟩ => ⟨h1, fin h2 h3⟩
  · obtain ⟨a, rfl⟩ := Int.eq_ofNat_of_zero_le ha.1
    refine one_other c.R B 13 a b x w _ (by simp) ?_
    cases h0 : t.has a
    · have e1 : oneM t S ⟨13, a, b, x⟩ = (t.ends 7, S) := by show (if t.has a = false then _ else _) = _; exact if_pos h0
      rw [e1]
      exact (ot_cancel_no c base B t S a b x _ hT1 hR1 (by omega) h0).mono fun e w' ⟨h1, h2, h3⟩ => ⟨h1, fin h2 h3⟩
    · have e1 : oneM t S ⟨13, a, b, x⟩ = (t, S) := by show (if t.has a = false then _ else _) = _; exact if_neg (by rw [h0]; simp)
      rw [e1]
      exact (ot_cancel c base B t S a b x _ hT1 hR1 (by omega) h0).mono fun e w' ⟨h1, h2, h3⟩ => ⟨h1, fin h2 h3⟩
  · refine one_other c.R B 14 a b x w _ (by simp) ?_
    exact (ot_yield c base B t S a b x _ hT1 hR1).mono fun e w' ⟨h1, h2, h3⟩ => ⟨h1, fin h2 h3⟩
  · obtain ⟨a, rfl⟩ := Int.eq_ofNat_of_zero_le ha.1
    exact (do_ret c.R B t a b x w hT (by omega)).mono fun e w' ⟨h1, h2, h3⟩ => ⟨h1, left_do hT hR hK h2 h3⟩
end Go.Proofs.YtonndofbnhnkpaaGreat.Rf
set_option linter.unusedVariables false
set_option linter.unusedSimpArgs false
set_option linter.unusedSectionVars false
namespace Go.Proofs.YtonndofbnhnkpaaGreat.Rf
open Go.RowKit Num KeyM KeyW StatW StatE Blk VmA VmG Prg EvM
theorem one_fork_deep (c : Fx) (base B : Nat) (t : RT) (S : RS) (a b x : Int) (w : World) (hT : IsT w B t) (hR : IsR c base w S) (hK : c.K ≤ B) (hd : c.depth ≤ dep t.key) :
    Calls Tryz.prog 40 #[.pointer (some ⟨c.R, 0, none⟩), .pointer (some ⟨B, 0, none⟩), insV ⟨9, a, b, x⟩] w fun e w' => e = .returned (.tuple #[]) ∧ Left c base B w { t with how := 6 } S w' := by
  have hT1 : IsT (w.alloc (.cells #[.int .i64 9, .int .i64 a, .int .i64 b, .int .i64 x] 53)) B t := World.rowIs.alloc hT.row _
  have hR1 : IsR c base (w.alloc (.cells #[.int .i64 9, .int .i64 a, .int .i64 b, .int .i64 x] 53)) S := hR.bl ((Bl.refl _).alloc _)
  refine one_other c.R B 9 a b x w _ (by simp) ?_
  exact (ot_fork_deep c base B t S a b x _ hT1 hR1 hd).mono fun e w' ⟨h1, h2, h3⟩ => ⟨h1, h2, hR1.on hT1.row hK h3, (Ch.trans ((Ch.refl _ _).alloc _) h3).mono (fun _ _ e => Or.inr e)⟩
theorem one_fork_many (c : Fx) (base B : Nat) (t : RT) (S : RS) (a b x : Int) (w : World) (hT : IsT w B t) (hR : IsR c base w S) (hK : c.K ≤ B) (hd : ¬ c.depth ≤ dep t.key) (hm : 1000 ≤ t.forks) :
    Calls Tryz.prog 40 #[.pointer (some ⟨c.R, 0, none⟩), .pointer (some ⟨B, 0, none⟩), insV ⟨9, a, b, x⟩] w fun e w' => e = .returned (.tuple #[]) ∧ Left c base B w { t with how := 9 } S w' := by
  have hT1 : IsT (w.alloc (.cells #[.int .i64 9, .int .i64 a, .int .i64 b, .int .i64 x] 53)) B t := World.rowIs.alloc hT.row _
  have hR1 : IsR c base (w.alloc (.cells #[.int .i64 9, .int .i64 a, .int .i64 b, .int .i64 x] 53)) S := hR.bl ((Bl.refl _).alloc _)
  refine one_other c.R B 9 a b x w _ (by simp) ?_
  exact (ot_fork_many c base B t S a b x _ hT1 hR1 hd hm).mono fun e w' ⟨h1, h2, h3⟩ => ⟨h1, h2, hR1.on hT1.row hK h3, (Ch.trans ((Ch.refl _ _).alloc _) h3).mono (fun _ _ e => Or.inr e)⟩
theorem one_fork (c : Fx) (base B : Nat) (t : RT) (S S2 : RS) (a b x : Nat) (hw vl : Int) (w : World) (hT : IsT w B t) (hR : IsR c base w S) (hbs : base ≤ w.heap.size) (hd : ¬ c.depth ≤ dep t.key) (hd5 : dep t.key < 5) (hm : ¬ 1000 ≤ t.forks) (hm0 : 0 ≤ t.forks) (hS0 : 0 ≤ S.forks) (hS1 : S.forks ≤ 100000) (hk : chk t.key = true) (h0 : t.how = 0)
    (ha : a < 4) (hx : x < 8) (hKB : c.K ≤ B) (hC : Child c base b (t.regs x) (child t.key (t.forks + 1)) { S with forks := S.forks + 1 } S2 hw vl) :
    Calls Tryz.prog 40 #[.pointer (some ⟨c.R, 0, none⟩), .pointer (some ⟨B, 0, none⟩), insV ⟨9, a, b, x⟩] w fun e w' => e = .returned (.tuple #[]) ∧ Left c base B w { t with forks := t.forks + 1, has := upd t.has a true, hh := upd t.hh a hw, hv := upd t.hv a vl } S2 w' := by
  have hT1 : IsT (w.alloc (.cells #[.int .i64 9, .int .i64 a, .int .i64 b, .int .i64 x] 53)) B t := World.rowIs.alloc hT.row _
  have hR1 : IsR c base (w.alloc (.cells #[.int .i64 9, .int .i64 a, .int .i64 b, .int .i64 x] 53)) S := hR.bl ((Bl.refl _).alloc _)
  refine one_other c.R B 9 a b x w _ (by simp) ?_
  exact (ot_fork c base B t S S2 a b x hw vl _ hT1 hR1 (by simp; omega) hd hd5 hm hm0 hS0 hS1 hk h0 ha hx hKB hC).mono fun e w' ⟨h1, h2, h3, h4⟩ => ⟨h1, h2, h3, Ch.trans ((Ch.refl _ _).alloc _) h4⟩
structure Cfg (c : Fx) : Prop where
  pv : PV c.fs c.futs c.depth c.fuel
  most0 : 0 ≤ c.most
  most1 : c.most ≤ 100000
def TaskSays (c : Fx) (n : Nat) : Prop := ∀ (base k fn : Nat) (arg key : Int) (S : RS) (u : RT) (S2 : RS), evLoop c.fs c.depth c.fuel c.most n (rt0 fn arg key c.fuel) S = some (u, S2) → fn < c.fs.length → chk key = true → SOk k c.most S → Child c base fn arg key S (finish u S2 arg) u.how u.val
/-- A task under way: so many rounds are to come at most. -/
def Lp (c : Fx) (base B n k : Nat) (fn key : Int) (u : RT) (S2 : RS) (w : World) (m : Nat) (wr : World) : Prop :=
  ∃ t S, m ≤ n ∧ evLoop c.fs c.depth c.fuel c.most m t S = some (u, S2) ∧ ROk c.fs c.futs t ∧ t.key = key ∧ t.fn = fn ∧ t.fuel ≤ 500 ∧ SOk k c.most S ∧ IsT wr B t ∧ IsR c base wr S ∧ Ch (fun k => Evs c k ∨ k = B) w wr
theorem t_start {c : Fx} {base : Nat} {S : RS} {w : World} (h : IsR c base w S) (fn arg key fuel : Int) :
    IsT ((w.alloc (.cells #[.int .i64 0, .int .i64 0] 29)).alloc (.cells #[.int .i64 (wrap32 arg), .int .i64 0, .int .i64 0, .int .i64 0, .int .i64 0, .int .i64 0, .int .i64 0, .int .i64 0, .bool false, .bool false, .bool false, .bool false, .int .i64 0, .int .i64 0, .int .i64 0, .int .i64 0, .int .i64 0, .int .i64 0, .int .i64 0, .int .i64 0, .int .i64 fn, .int .i64 0, .int .i64 fuel, .int .i64 0, .int .i64 key, .int .i64 0, .int .i64 0] 100)).drew (w.heap.size + 1) (rt0 fn arg key fuel) ∧
    IsR c base ((w.alloc (.cells #[.int .i64 0, .int .i64 0] 29)).alloc (.cells #[.int .i64 (wrap32 arg), .int .i64 0, .int .i64 0, .int .i64 0, .int .i64 0, .int .i64 0, .int .i64 0, .int .i64 0, .bool false, .bool false, .bool false, .bool false, .int .i64 0, .int .i64 0, .int .i64 0, .int .i64 0, .int .i64 0, .int .i64 0, .int .i64 0, .int .i64 0, .int .i64 fn, .int .i64 0, .int .i64 fuel, .int .i64 0, .int .i64 key, .int .i64 0, .int .i64 0] 100)).drew S ∧
    ((w.alloc (.cells #[.int .i64 0, .int .i64 0] 29)).alloc (.cells #[.int .i64 (wrap32 arg), .int .i64 0, .int .i64 0, .int .i64 0, .int .i64 0, .int .i64 0, .int .i64 0, .int .i64 0, .bool false, .bool false, .bool false, .bool false, .int .i64 0, .int .i64 0, .int .i64 0, .int .i64 0, .int .i64 0, .int .i64 0, .int .i64 0, .int .i64 0, .int .i64 fn, .int .i64 0, .int .i64 fuel, .int .i64 0, .int .i64 key, .int .i64 0, .int .i64 0] 100)).drew.rowIs w.heap.size 29 2 (fun _ => .int .i64 0) ∧
    Ch (Evs c) w ((w.alloc (.cells #[.int .i64 0, .int .i64 0] 29)).alloc (.cells #[.int .i64 (wrap32 arg), .int .i64 0, .int .i64 0, .int .i64 0, .int .i64 0, .int .i64 0, .int .i64 0, .int .i64 0, .bool false, .bool false, .bool false, .bool false, .int .i64 0, .int .i64 0, .int .i64 0, .int .i64 0, .int .i64 0, .int .i64 0, .int .i64 0, .int .i64 0, .int .i64 fn, .int .i64 0, .int .i64 fuel, .int .i64 0, .int .i64 key, .int .i64 0, .int .i64 0] 100)).drew := by
  refine ⟨?_, h.bl (Bl.drew (((Bl.refl _).alloc _).alloc _)), ?_, (((Ch.refl _ _).alloc _).alloc _).drew⟩
  · have h2 := World.rowIs_alloc (w.alloc (.cells #[.int .i64 0, .int .i64 0] 29)) #[.int .i64 (wrap32 arg), .int .i64 0, .int .i64 0, .int .i64 0, .int .i64 0, .int .i64 0, .int .i64 0, .int .i64 0, .bool false, .bool false, .bool false, .bool false, .int .i64 0, .int .i64 0, .int .i64 0, .int .i64 0, .int .i64 0, .int .i64 0, .int .i64 0, .int .i64 0, .int .i64 fn, .int .i64 0, .int .i64 fuel, .int .i64 0, .int .i64 key, .int .i64 0, .int .i64 0] 100 (rtF (rt0 fn arg key fuel)) (by
      show ∀ i, i < 27 → _
      repeat refine all_lt ?_ rfl
      exact all_none)
    have hs : (w.alloc (.cells #[.int .i64 0, .int .i64 0] 29)).heap.size = w.heap.size + 1 := by simp
    rw [hs] at h2
    exact h2
  · refine World.rowIs.drew (World.rowIs.alloc ?_ _)
    exact World.rowIs_alloc w #[.int .i64 0, .int .i64 0] 29 _ (fun i hi => by
      have hi : i < 2 := hi
      obtain rfl | rfl : i = 0 ∨ i = 1 := by omega
      all_goals rfl)
set_option maxRecDepth 100000 in
set_option maxHeartbeats 8000000 in
theorem task_step (c : Fx) (hcf : Cfg c) (n : Nat) (ih : ∀ m, m < n → TaskSays c m) : TaskSays c n := by
  intro base k fn arg key S u S2 hev hfn hkey hsok w hR hbs
  have hW := fun a w => Ref1.wrap_any a w
  have hlt := hR.lts
  have q3 : w.cell? ⟨c.R, 3, none⟩ = some (.int .i64 c.fuel) := by obtain ⟨⟨vr, r1, r2⟩, r3, r4, r5, r6⟩ := hR; exact r1.cell (i := 3) (by omega)
  have HR := Lib.hid hR
  have HEV := Lib.hid hev
  have HI := Lib.hid ih
  clear hR hev ih
  go_enter Tryz.func22, Tryz.ntmps22
  go_wp2_with fail
  refine still_tail 6 (by kernel_rfl) (by kernel_rfl) ?_
  simp only [List.take_succ_cons, List.take_zero, List.drop_succ_cons, List.drop_zero]
  repeat (first | still_step | still_call ((hW _ _).mono fun _ _ ⟨he, hw⟩ => ⟨he, hw.symm⟩))
  refine wpStill_nil ?_
  go_upto_block 0 with fail
  refine at_world (fun w1 => IsT w1 (w.heap.size + 1) (rt0 fn arg key c.fuel) ∧ IsR c base w1 S ∧ w1.rowIs w.heap.size 29 2 (fun _ => .int .i64 0) ∧ Ch (Evs c) w w1) ?_ ?_
  · exact t_start HR.out fn arg key c.fuel
  rintro w1 ⟨hT1, hR1, hE1, hC1⟩
  generalize hB : w.heap.size + 1 = B at *
  generalize hE : w.heap.size = E at *
  have hKB : c.K ≤ B := by have := hR1.far.1; omega
  have HB := Lib.hid hB
  have HE := Lib.hid hE
  clear hB hE
  have hw1E := hE1.lt
  go_cut [10] (fun x wc => IsT wc B u ∧ IsR c base wc S2 ∧ SOk k c.most S2 ∧ Ch (fun k => Evs c k ∨ k = B) w1 wc)
  case first =>
    go_wp2_with fail
    go_loopg [10] n (fun m x wr => Lp c base B n k fn key u S2 w1 m wr)
    case atStart => exact ⟨rt0 fn arg key c.fuel, S, Nat.le_refl _, HEV.out, rok_new hcf.pv rfl hfn hkey, rfl, rfl, hcf.pv.fuel1, hsok, hT1, hR1, Ch.refl _ _⟩
    case round =>
      obtain ⟨t, S', hm, hev, hrk, hkt, hft, hfu, hsk, hT, hR, hC⟩ := hrel
      obtain ⟨m, rfl⟩ : ∃ m, gk = m + 1 := by
        cases gk with
        | zero => simp [evLoop] at hev
        | succ m => exact ⟨m, rfl⟩
      unfold evLoop at hev
      obtain ⟨e20, e21, e22, e23, e24, e25, e26⟩ := ct_nums hT
      have f22 := hT.row.frozen 22
      have f25 := hT.row.frozen 25
      have hlB := hT.row.lt
      have hRr := hR.ran
      obtain ⟨vr, r1, _⟩ := hRr
      have q7 : wr.cell? ⟨c.R, 7, none⟩ = some (.int .i64 S'.steps) := r1.cell (i := 7) (by omega)
      have q9 : wr.cell? ⟨c.R, 9, none⟩ = some (.int .i64 c.most) := r1.cell (i := 9) (by omega)
      have q10 : wr.cell? ⟨c.R, 10, none⟩ = some (.bool S'.over) := r1.cell (i := 10) (by omega)
      have g7 := r1.frozen 7
      have g10 := r1.frozen 10
      have lR := r1.lt
      have HT := Lib.hid hT
      have HRR := Lib.hid hR
      have HC := Lib.hid hC
      have HRK := Lib.hid hrk
      have HSK := Lib.hid hsk
      have nRB : ¬ c.R = B := fun e => (hR.far_t hT.row).1 e.symm
      have hfl := hrk.fuel
      have hst0 : 0 ≤ S'.steps := by have := hsk.rf; have := hsk.fs; omega
      have hst2 : S'.steps ≤ 100000 := by have := hsk.sm; have := hcf.most1; omega
      clear hT hR hC hrk hsk r1 hT1 hR1 hE1 HEV HR hC1
      by_cases h1 : t.how ≠ 0 ∨ S'.over = true
      · rw [if_pos h1] at hev
        cases hev
        by_cases h2 : u.how = 0
        · have h3 : S2.over = true := by rcases h1 with h | h; exact absurd h2 h; exact h
          rw [h2] at e25
          rw [h3] at q10
          clear h1 h2 h3
          go_wp2_with fail
          go_meet
          exact ⟨HT.out, HRR.out, HSK.out, HC.out⟩
        · have h2' : (u.how == 0) = false := by simpa using h2
          clear h1 h2
          go_wp2_with fail
          go_meet
          exact ⟨HT.out, HRR.out, HSK.out, HC.out⟩
      · rw [if_neg h1] at hev
        have h0 : t.how = 0 := by
          rcases Decidable.em (t.how = 0) with h | h
          · exact h
          · exact absurd (Or.inl h) h1
        have ho : S'.over = false := by
          cases hh : S'.over
          · rfl
          · exact absurd (Or.inr hh) h1
        have H0 := Lib.hid h0
        have HO := Lib.hid ho
        rw [h0] at e25
        rw [ho] at q10
        clear h1 h0 ho
        by_cases h2 : t.fuel = 0
        · rw [if_pos h2] at hev
          cases hev
          rw [h2] at e22
          clear h2
          go_wp2_with fail
          go_meet
          exact ⟨t_how (HT.out.set 25 _), HRR.out.on HT.out hKB ((Ch.refl _ _).setB _), HSK.out, HC.out.set (Or.inl (Or.inr rfl)) _⟩
        · rw [if_neg h2] at hev
          have h2' : (t.fuel == 0) = false := by simpa using h2
          by_cases h3 : c.most ≤ S'.steps
          · rw [if_pos h3] at hev
            cases hev
            go_wp2_with fail
            go_quiet (fail)
            go_wp2_with fail
            go_meet
            exact ⟨row_setO (row_drewN HT.out _) (fun e => nRB e.symm) _, isR_over (HRR.out.bl (Bl.drewN (Bl.refl _) _)) true, ⟨HSK.out.rf, HSK.out.fs, HSK.out.sm⟩, (HC.out.drewN _).set (Or.inl (Or.inl (Or.inl rfl))) _⟩
          · rw [if_neg h3] at hev
            have h3' : ¬ S'.steps ≥ c.most := h3
            go_wp2_with fail
            go_quiet (fail)
            go_upto_region 10 with fail
            have hst1 : S'.steps + 1 ≤ 100000 := by have := hcf.most1; omega
            refine at_world (fun w4 => IsT w4 B { t with fuel := t.fuel - 1 } ∧ IsR c base w4 { S' with steps := S'.steps + 1 } ∧ Ch (fun k => Evs c k ∨ k = B) w1 w4) ?_ ?_
            · exact ⟨row_setO (t_fuel (row_drewN HT.out _ |>.set 22 _)).row (fun e => nRB e.symm) _, isR_steps (S := S') (IsR.on (HRR.out.bl (Bl.drewN (Bl.refl _) _)) (row_drewN HT.out _) hKB ((Ch.refl _ _).setB _)) _, (((HC.out.drewN _).set (Or.inl (Or.inr rfl)) _).set (Or.inl (Or.inl (Or.inl rfl))) _)⟩
            rintro w4 ⟨hT4, hR4, hC4⟩
            clear q7 q9 q10 g7 g10 e20 e21 e22 e23 e24 e25 e26 f22 f25 HT HRR HC
            obtain ⟨nn, pp, f, hn1, hn2, hn3, hn4⟩ := HRK.out.place H0.out
            obtain rfl : nn = fn := by omega
            obtain ⟨i, hi⟩ := ins_here hcf.pv hn2 hn4
            have hia := insAt_of hn1 hn2 hn3 hi.1
            rw [hia] at hev
            simp only at hev
            obtain ⟨x20, x21, e22, e23, e24, e25, e26⟩ := ct_nums hT4
            have e20 : w4.cell? ⟨B, 20, none⟩ = some (.int .i64 (nn : Int)) := by rw [← hn1]; exact x20
            have e21 : w4.cell? ⟨B, 21, none⟩ = some (.int .i64 (pp : Int)) := by rw [← hn3]; exact x21
            clear x20 x21
            have f21 := hT4.row.frozen 21
            have hlB4 := hT4.row.lt
            obtain ⟨vr4, r4, _⟩ := hR4.ran
            have p0 : w4.cell? ⟨c.R, 0, none⟩ = some (.slice c.pa c.fs.length c.pc) := r4.cell (i := 0) (by omega)
            have lR4 := r4.lt
            obtain ⟨cb, co, hpa, hcbK, fa, fc, hc1, hc2⟩ := hR4.code nn f hn2
            obtain ⟨db, do_, hfa, hdbK, d0, d1, d2, d3⟩ := hc2 pp i hi.1
            have hnl : nn < c.fs.length := (List.getElem?_eq_some_iff.1 hn2).1
            have lcb := lt_of_cell hc1
            have ldb := lt_of_cell d0
            subst hfa
            rw [hpa] at p0
            have i1 : (nn : Int) < (c.fs.length : Int) := by omega
            have i2 : (0 : Int) ≤ (nn : Int) := by omega
            have i3 : (pp : Int) < (f.length : Int) := by omega
            have i4 : (0 : Int) ≤ (pp : Int) := by omega
            have hpp : pp ≤ 40 := hi.2.1
            have HIN := Lib.hid hi
            have HN := Lib.hid (And.intro hn1 (And.intro hn2 (And.intro hn3 hn4)))
            have HEV := Lib.hid hev
            have HT4 := Lib.hid hT4
            have HR4 := Lib.hid hR4
            have HC4 := Lib.hid hC4
            have HPA := Lib.hid hpa
            clear hn1 hn2 hn3 hn4 hi hev hT4 hR4 hC4 hc2 hpa hia r4
            go_region
            go_upto_region 12 with fail
            refine at_world (fun w6 => IsT w6 B { t with fuel := t.fuel - 1, place := t.place + 1 } ∧ IsR c base w6 { S' with steps := S'.steps + 1 } ∧ w6.rowIs w4.heap.size 53 4 (four (.int .i64 i.op) (.int .i64 i.a) (.int .i64 i.b) (.int .i64 i.c)) ∧ Ch (fun k => Evs c k ∨ k = B) w1 w6) ?_ ?_
            · refine ⟨?_, ?_, ?_, ?_⟩
              · rw [HN.out.2.2.1]
                exact t_place (t := { t with fuel := t.fuel - 1 }) (World.rowIs.drew (World.rowIs.alloc (HT4.out.row.set 21 _) _))
              · exact IsR.bl (IsR.on HR4.out HT4.out hKB ((Ch.refl _ _).setB _)) (Bl.drew ((Bl.refl _).alloc _))
              · have h := row4_alloc (w4.setCell ⟨B, 21, none⟩ (.int .i64 ((pp : Int) + 1))) (.int .i64 i.op) (.int .i64 i.a) (.int .i64 i.b) (.int .i64 i.c) 53
                have hs : (w4.setCell ⟨B, 21, none⟩ (.int .i64 ((pp : Int) + 1))).heap.size = w4.heap.size := by simp
                rw [hs] at h
                exact h
              · exact ((HC4.out.set (Or.inl (Or.inr rfl)) _).alloc _).drew
            rintro w6 ⟨hT6, hR6, hx6, hC6⟩
            obtain ⟨⟨k0, k1, k2, k3⟩, _⟩ := row4_cells hx6
            have HT6 := Lib.hid hT6
            have HR6 := Lib.hid hR6
            have HC6 := Lib.hid hC6
            clear hT6 hR6 hC6 hx6 e20 e21 e22 e23 e24 e25 e26 f21 p0 hc1 d0 d1 d2 d3 HT4 HR4 HC4
            have hbs6 : base ≤ w6.heap.size := by have := HC6.out.size; omega
            by_cases h9 : i.op = 9
            · have H9 := Lib.hid h9
              have hio := HIN.out.2.2.1
              have hg : Rg i.a 4 ∧ Rg i.b 12 ∧ Rg i.c 8 := by rcases hio.1 with g | g | g | g | g | g | g | g | g | g | g <;> first | exact g.2 | (exfalso; omega)
              have hbf := hio.2.2.2.1 h9
              obtain ⟨⟨ha0, ha1⟩, ⟨hb0, hb1⟩, ⟨hx0, hx1⟩⟩ := hg
              obtain ⟨ia, hia⟩ := Int.eq_ofNat_of_zero_le ha0
              obtain ⟨ib, hib⟩ := Int.eq_ofNat_of_zero_le hb0
              obtain ⟨ix, hix⟩ := Int.eq_ofNat_of_zero_le hx0
              have hev := HEV.out
              rw [if_pos h9] at hev
              rw [h9] at k0
              rw [hia] at k1
              rw [hib] at k2
              rw [hix] at k3
              have hreg : t.reg i.c = t.regs ix := by unfold RT.reg; rw [hix]; rfl
              have hat : i.a.toNat = ia := by omega
              rw [hreg, hib, hat] at hev
              have hia4 : ia < 4 := by omega
              have hib4 : ib < c.fs.length := by omega
              have hix8 : ix < 8 := by omega
              clear ha0 ha1 hb0 hb1 hx0 hx1 hbf hio hat hreg hia hib hix h9
              have hd5 := hcf.pv.dep1
              by_cases hdp : c.depth ≤ dep t.key
              · rw [if_pos hdp] at hev
                have hO := one_fork_deep c base B { t with fuel := t.fuel - 1, place := t.place + 1 } { S' with steps := S'.steps + 1 } ia ib ix w6 HT6.out HR6.out hKB hdp
                have HF : Hid (∀ w7, Left c base B w6 { t with fuel := t.fuel - 1, place := t.place + 1, how := 6 } { S' with steps := S'.steps + 1 } w7 → Lp c base B n k nn key u S2 w1 m w7) := by
                  intro w7 ⟨g1, g2, g3⟩
                  exact ⟨_, _, by omega, hev, ⟨HRK.out.key, HRK.out.forks, by show 0 ≤ t.fuel - 1; omega, fun e => by simp at e⟩, hkt, hft, by show t.fuel - 1 ≤ 500; omega, sok_step HSK.out (by omega), g1, g2, HC6.out.trans g3⟩
                unfold insV at hO
                clear hev HEV
                go_wp2_with fail
                refine hO.mono ?_
                rintro e w7 ⟨rfl, hL⟩
                have HL := Lib.hid (HF.out w7 hL)
                clear hL HF hO
                go_wp2_with fail
                go_roundg m
                case measure => omega
                case rel => exact HL.out
              · rw [if_neg hdp] at hev
                by_cases hmn : 1000 ≤ t.forks
                · rw [if_pos hmn] at hev
                  have hO := one_fork_many c base B { t with fuel := t.fuel - 1, place := t.place + 1 } { S' with steps := S'.steps + 1 } ia ib ix w6 HT6.out HR6.out hKB hdp hmn
                  have HF : Hid (∀ w7, Left c base B w6 { t with fuel := t.fuel - 1, place := t.place + 1, how := 9 } { S' with steps := S'.steps + 1 } w7 → Lp c base B n k nn key u S2 w1 m w7) := by
                    intro w7 ⟨g1, g2, g3⟩
                    exact ⟨_, _, by omega, hev, ⟨HRK.out.key, HRK.out.forks, by show 0 ≤ t.fuel - 1; omega, fun e => by simp at e⟩, hkt, hft, by show t.fuel - 1 ≤ 500; omega, sok_step HSK.out (by omega), g1, g2, HC6.out.trans g3⟩
                  unfold insV at hO
                  clear hev HEV
                  go_wp2_with fail
                  refine hO.mono ?_
                  rintro e w7 ⟨rfl, hL⟩
                  have HL := Lib.hid (HF.out w7 hL)
                  clear hL HF hO
                  go_wp2_with fail
                  go_roundg m
                  case measure => omega
                  case rel => exact HL.out
                · rw [if_neg hmn] at hev
                  cases hc : evLoop c.fs c.depth c.fuel c.most m (rt0 ib (t.regs ix) (child t.key (t.forks + 1)) c.fuel) { S' with steps := S'.steps + 1, forks := S'.forks + 1 } with
                  | none => rw [hc] at hev; cases hev
                  | some q =>
                    obtain ⟨u', S2'⟩ := q
                    rw [hc] at hev
                    simp only at hev
                    have hfk := HRK.out.forks
                    have hbn := born (n := t.forks + 1) HRK.out.key (by omega) (by omega) (by omega)
                    have hch : Child c base ib (t.regs ix) (child t.key (t.forks + 1)) { S' with steps := S'.steps + 1, forks := S'.forks + 1 } (finish u' S2' (t.regs ix)) u'.how u'.val :=
                      HI.out m (by omega) base (k + 1) ib (t.regs ix) (child t.key (t.forks + 1)) _ u' S2' hc hib4 hbn.1 (sok_fork HSK.out (by omega))
                    have hO := one_fork c base B { t with fuel := t.fuel - 1, place := t.place + 1 } { S' with steps := S'.steps + 1 } (finish u' S2' (t.regs ix)) ia ib ix u'.how u'.val w6 HT6.out HR6.out hbs6 hdp (by show dep t.key < 5; omega) hmn hfk (by show 0 ≤ S'.forks; have := HSK.out.rf; omega) (by show S'.forks ≤ 100000; have := HSK.out.fs; omega) HRK.out.key H0.out hia4 hix8 hKB hch
                    have HF : Hid (∀ w7, Left c base B w6 { t with fuel := t.fuel - 1, place := t.place + 1, forks := t.forks + 1, has := upd t.has ia true, hh := upd t.hh ia u'.how, hv := upd t.hv ia u'.val } (finish u' S2' (t.regs ix)) w7 → Lp c base B n k nn key u S2 w1 m w7) := by
                      intro w7 ⟨g1, g2, g3⟩
                      refine ⟨_, _, by omega, hev, ⟨HRK.out.key, by show 0 ≤ t.forks + 1; omega, by show 0 ≤ t.fuel - 1; omega, fun _ => ?_⟩, hkt, hft, by show t.fuel - 1 ≤ 500; omega, sok_finish (evLoop_sok hc (sok_fork HSK.out (by omega))), g1, g2, HC6.out.trans g3⟩
                      have hpl : pp + 1 < f.length := by
                        rcases HIN.out.2.2.2 with g | g | g
                        · exact g
                        · have := H9.out; omega
                        · have := H9.out; omega
                      exact ⟨nn, pp + 1, f, HN.out.1, HN.out.2.1, by show t.place + 1 = _; rw [HN.out.2.2.1]; omega, hpl⟩
                    unfold insV at hO
                    clear hev HEV hc hch hbn
                    go_wp2_with fail
                    refine hO.mono ?_
                    rintro e w7 ⟨rfl, hL⟩
                    have HL := Lib.hid (HF.out w7 hL)
                    clear hL HF hO
                    go_wp2_with fail
                    go_roundg m
                    case measure => omega
                    case rel => exact HL.out
            · have hev := HEV.out
              rw [if_neg h9] at hev
              have hO := one_any c base B { t with fuel := t.fuel - 1, place := t.place + 1 } { S' with steps := S'.steps + 1 } i c.fs.length f.length w6 HT6.out HR6.out hKB HIN.out.2.2.1 h9
              have hrn := rok_next (S := { S' with steps := S'.steps + 1 }) hcf.pv HRK.out (by omega) HN.out.1 HN.out.2.1 HN.out.2.2.1 HIN.out
              have hkp := one_keep { t with fuel := t.fuel - 1, place := t.place + 1 } { S' with steps := S'.steps + 1 } i
              have hsk := sok_one (t := { t with fuel := t.fuel - 1, place := t.place + 1 }) (i := i) (sok_step HSK.out (by omega))
              have HF : Hid (∀ w7, Left c base B w6 (oneM { t with fuel := t.fuel - 1, place := t.place + 1 } { S' with steps := S'.steps + 1 } i).1 (oneM { t with fuel := t.fuel - 1, place := t.place + 1 } { S' with steps := S'.steps + 1 } i).2 w7 → Lp c base B n k nn key u S2 w1 m w7) := by
                intro w7 ⟨g1, g2, g3⟩
                exact ⟨_, _, by omega, hev, hrn.1, by rw [hkp.1]; exact hkt, by rw [hkp.2]; exact hft, by rw [hrn.2.1]; omega, hsk, g1, g2, HC6.out.trans g3⟩
              unfold insV at hO
              clear hev hrn hkp hsk HEV
              go_wp2_with fail
              refine hO.mono ?_
              rintro e w7 ⟨rfl, hL⟩
              have HL := Lib.hid (HF.out w7 hL)
              clear hL HF hO
              go_wp2_with fail
              go_roundg m
              case measure => omega
              case rel => exact HL.out
  case rest =>
    obtain ⟨hT2, hR2, hs2, hC2⟩ := hcut
    have lt2 := hR2.lts
    have hE2 : wc.rowIs E 29 2 (fun _ => .int .i64 0) := hC2.row hE1 (fun e => by have := HB.out; rcases e with (e | e | e) | e <;> omega)
    have hkeep := evLoop_keep HEV.out
    have HK : Hid (u.key = key ∧ u.fn = fn) := hkeep
    have hfar := hR2.far.1
    obtain ⟨e20, e21, e22, e23, e24, e25, e26⟩ := ct_nums hT2
    have z0 : wc.cell? ⟨E, 0, none⟩ = some (.int .i64 0) := hE2.cell (i := 0) (by omega)
    have z1 : wc.cell? ⟨E, 1, none⟩ = some (.int .i64 0) := hE2.cell (i := 1) (by omega)
    have y0 := hE2.frozen 0
    have y1 := hE2.frozen 1
    have zl := hE2.lt
    have HR2 := Lib.hid hR2
    have HE2 := Lib.hid hE2
    have HC1 := Lib.hid hC1
    have HC2 := Lib.hid hC2
    have HC3 : Hid (Ch (Evs c) w wc) := HC1.out.then HC2.out (fun i hi e => by
      rcases e with e | e
      · exact e
      · have := HB.out; have := HE.out; omega)
    have hwE : w.heap.size ≤ E := by have := HE.out; omega
    have hKE : c.K ≤ E := by omega
    obtain ⟨⟨vr, r1, r2⟩, _, _, _, _⟩ := hR2
    have q10 : wc.cell? ⟨c.R, 10, none⟩ = some (.bool S2.over) := r1.cell (i := 10) (by omega)
    have q4 : wc.cell? ⟨c.R, 4, none⟩ = some vr := r1.cell (i := 4) (by omega)
    have f4 := r1.frozen 4
    have hown := Lib.hid r2
    have hrl : S2.ran.length ≤ 100000 := by have := hs2.rf; have := hs2.fs; have := hs2.sm; have := hcf.most1; omega
    clear hkeep hR1 hT1 hE1 hC1 hE2 hC2 r1 r2 hT2 hs2 hsok
    cases ho : S2.over
    · rw [ho] at q10
      have HF : Hid (finish u S2 arg = { S2 with ran := put S2.ran ⟨u.key, u.fn, wrap32 arg, u.how, u.val⟩ }) := by show _ = _; unfold finish; rw [ho]; rfl
      clear ho
      go_wp2_with fail
      go_region_with (first
        | (go_at_call 39; with_reducible refine (hW _ _).mono ?_; rintro e w' ⟨rfl, rfl⟩)
        | (go_at_call 41; refine (put_any ⟨key, fn, wrap32 arg, u.how, u.val⟩ base S2.ran vr wc.drew hown.out hrl (by show base ≤ wc.heap.size; omega)).mono ?_; rintro e w5 ⟨v5, rfl, ho5, hb5⟩; obtain ⟨a5, c5, rfl, _⟩ := own_shape5 ho5; have p4 := st_cell hb5 (show wc.drew.cell? _ = _ from q4); have g4 := st_frozen hb5 (show wc.drew.cell? _ = _ from q4) f4))
      all_goals
        have z0' := z0
        have z0 := st_cell hb5 (show wc.drew.cell? _ = _ from z0)
        have z1' := z1
        have z1 := st_cell hb5 (show wc.drew.cell? _ = _ from z1)
        have y0 := st_frozen hb5 (show wc.drew.cell? _ = _ from z0') y0
        have y1 := st_frozen hb5 (show wc.drew.cell? _ = _ from z1') y1
        have e25 := st_cell hb5 (show wc.drew.cell? _ = _ from e25)
        have e26 := st_cell hb5 (show wc.drew.cell? _ = _ from e26)
        have HE5 : Hid (w5.rowIs E 29 2 (fun _ => .int .i64 0)) := row_bl (show wc.drew.rowIs _ _ _ _ from HE2.out) hb5
        have HR5 : Hid (IsR c base w5 S2) := HR2.out.bl (Bl.trans (Bl.drew (Bl.refl _)) hb5)
        have HO5 := Lib.hid ho5
        have hs5 := hb5.size
        have hs5' : wc.heap.size ≤ w5.heap.size := hs5
        have HB5 : Hid (Ch (Evs c) wc w5) := Ch.of_bl (Bl.trans (Bl.drew (Bl.refl _)) hb5)
        have nRE : ¬ c.R = E := by omega
        clear ho5 hb5 hs5 z0' z1'
        go_wp2_with fail
        refine bodyPost_ret (v := .agg #[.int .i64 u.how, .int .i64 u.val]) (by simp [results, Tryz.results22, go_sem, z0, z1]) rfl ⟨rfl, ?_, ?_⟩
        · rw [HF.out, HK.out.1, HK.out.2]
          have h1 := isR_ran (ran := put S2.ran ⟨key, fn, wrap32 arg, u.how, u.val⟩) HR5.out _ (by rw [put_len]; exact HO5.out)
          exact IsR.on35 h1 (row_setO HE5.out (fun e => nRE e.symm) _) hKE (((Ch.refl _ _).setB _).setB _)
        · exact ((HC3.out.trans HB5.out).set (Or.inl (Or.inl rfl)) _).set (Or.inr hwE) _ |>.set (Or.inr hwE) _
    · rw [ho] at q10
      have HF : Hid (finish u S2 arg = S2) := by show _ = _; unfold finish; rw [ho]; rfl
      clear ho
      go_wp2_with fail
      refine bodyPost_ret (v := .agg #[.int .i64 u.how, .int .i64 u.val]) (by simp [results, Tryz.results22, go_sem, z0, z1]) rfl ⟨rfl, ?_, ?_⟩
      · rw [HF.out]
        exact HR2.out.on35 HE2.out hKE (((Ch.refl _ _).setB _).setB _)
      · exact (HC3.out.set (Or.inr hwE) _).set (Or.inr hwE) _
theorem task_says (c : Fx) (hcf : Cfg c) (n : Nat) : TaskSays c n := by
  induction n using Nat.strongRecOn with
  | ind n ih => exact task_step c hcf n ih
end Go.Proofs.YtonndofbnhnkpaaGreat.Rf
set_option linter.unusedVariables false
set_option linter.unusedSimpArgs false
set_option linter.unusedSectionVars false
namespace Go.Proofs.YtonndofbnhnkpaaGreat.PutA
open Go.RowKit Num KeyM KeyW StatW Blk VmA Prg
set_option maxHeartbeats 4000000 in
theorem right5_ok (pa : Option Addr) (nf pc : Nat) (futs depth fuel : Int) (n : Nat) (i : Ins) (w : World) (h : InsIn nf futs n i) :
    Calls Tryz.prog 38 #[progV pa nf pc futs depth fuel, .int .i64 n, insV i] w fun e w' => e = .returned (.bool true) ∧ Bl w w' := by
  obtain ⟨ho, _⟩ := fits_of h.1
  obtain ⟨op, a, b, c⟩ := i
  obtain ⟨_, h7, h8, h9, h11, h12⟩ := h
  simp only at ho h7 h8 h9 h11 h12
  unfold progV insV
  rcases ho with rfl | rfl | rfl | rfl | rfl | rfl | rfl | rfl | rfl | rfl | rfl | rfl | rfl | rfl | rfl
  all_goals
    try simp only [true_implies, forall_const] at h7 h8 h9 h11 h12
    go_enter Tryz.func38, Tryz.ntmps38
    go_wp2_with fail
    go_ret
    exact ⟨rfl, by repeat (first | exact Bl.refl _ | assumption | apply Bl.drewN | apply Bl.drew | apply Bl.alloc | refine Bl.trans ?_ (by assumption))⟩
set_option maxRecDepth 100000 in
set_option maxHeartbeats 8000000 in
theorem check_ok (pa : Option Addr) (pc : Nat) (futs depth fuel : Int) (fs : List (List Ins)) (w : World) (hP : PV fs futs depth fuel) (hC : CodeAt w.heap.size w pa fs) :
    Calls Tryz.prog 21 #[progV pa fs.length pc futs depth fuel] w fun e w' => e = .returned (.int .i64 0) ∧ Bl w w' := by
  have hput := fun w' (hb : Bl w w') => put_ok pa pc futs depth fuel fs w' hP (Prg.CodeAt.mono (hC.bl hb) hb.size)
  have p1 := hP.one
  have p2 := hP.most
  have hrow := row4_alloc w (.slice pa fs.length pc) (.int .i64 futs) (.int .i64 depth) (.int .i64 fuel) 24
  have HC := Lib.hid hC
  have HP := Lib.hid hP
  clear hC hP
  unfold progV at *
  go_enter Tryz.func21, Tryz.ntmps21
  go_wp2_with fail
  refine (hput _ ((Bl.refl _).alloc _)).mono ?_
  rintro e w1 ⟨s, rfl, hb1⟩
  have hrow1 := row_bl hrow hb1
  have hB1 : Bl w w1 := Bl.trans ((Bl.refl _).alloc _) hb1
  clear hput hrow hb1
  go_wp2_with fail
  go_loopw [5] (fun i wr => ∃ j : Nat, j ≤ fs.length ∧ i = .int .i64 j ∧ Bl w1 wr) (fun i _ => fs.length - (intOf i).toNat)
  case atStart => exact ⟨0, by omega, rfl, Bl.refl _⟩
  case round =>
    obtain ⟨j, hj, rfl, hB2⟩ := hrel
    have hB3 : Bl w wr := Bl.trans hB1 hB2
    obtain ⟨⟨k0, k1, k2, k3⟩, _⟩ := row4_cells (row_bl hrow1 hB2)
    by_cases hlt : j < fs.length
    · obtain ⟨f, hf⟩ : ∃ f, fs[j]? = some f := ⟨_, List.getElem?_eq_getElem hlt⟩
      obtain ⟨b, off, hpa, hbK, fa, fc, hc1, hc2⟩ := HC.out j f hf
      obtain ⟨hf1, hf2, hf3, y, hy, hyo⟩ := HP.out.fns f (List.mem_of_getElem? hf)
      have hc1 := st_cell hB3 hc1
      have hrow2 := row_bl hrow1 hB2
      rw [hpa] at k0 hrow2
      have b1 : (j : Int) < (fs.length : Int) := by omega
      have b2 : (0 : Int) ≤ (j : Int) := by omega
      obtain ⟨db, do_, rfl, _, g0, _⟩ := hc2 (f.length - 1) y hy
      have g0 := st_cell hB3 g0
      have HC2 := Lib.hid hc2
      have HI := Lib.hid hf3
      have HPA := Lib.hid hpa
      have c1 : (f.length : Int) - 1 < (f.length : Int) := by omega
      have c2 : (0 : Int) ≤ (f.length : Int) - 1 := by omega
      have c3 : ((f.length : Int) - 1).toNat = f.length - 1 := by omega
      have c4 : ((f.length : Int) == 0) = false := beq_eq_false_iff_ne.2 (by omega)
      obtain ⟨wo, rfl⟩ : ∃ wo : World, wo = wr := ⟨_, rfl⟩
      clear hf hc2 hf3 hpa hy
      rcases hyo with hyo | hyo
      all_goals
        rw [hyo] at g0
        clear hyo
        go_wp2_with fail
        go_loopw [8] (fun i w2 => ∃ m : Nat, m ≤ f.length ∧ i = .int .i64 m ∧ Bl wo w2) (fun i _ => f.length - (intOf i).toNat)
        case atStart => exact ⟨0, by omega, rfl, Bl.refl _⟩
        case round =>
          obtain ⟨m, hm, rfl, hB7⟩ := hrel
          have hB8 : Bl w wr := Bl.trans hB3 hB7
          clear k0 k1 k2 k3 g0
          obtain ⟨⟨k0, k1, k2, k3⟩, _⟩ := row4_cells (row_bl hrow2 hB7)
          by_cases hml : m < f.length
          · obtain ⟨x, hx⟩ : ∃ x, f[m]? = some x := ⟨_, List.getElem?_eq_getElem hml⟩
            obtain ⟨db', do', hda, _, g0, g1, g2, g3⟩ := HC2.out m x hx
            cases hda
            have g0 := st_cell hB8 g0
            have g1 := st_cell hB8 g1
            have g2 := st_cell hB8 g2
            have g3 := st_cell hB8 g3
            have hrt := fun w => right5_ok (some ⟨b, off, none⟩) fs.length pc futs depth fuel f.length x w (HI.out x (List.mem_of_getElem? hx))
            unfold progV insV at hrt
            have a3 : (m : Int) < (f.length : Int) := by omega
            have a4 : (0 : Int) ≤ (m : Int) := by omega
            clear hx
            go_wp2_with fail
            refine still_tail 6 (by kernel_rfl) (by kernel_rfl) ?_
            simp only [List.take_succ_cons, List.take_zero, List.drop_succ_cons, List.drop_zero]
            repeat still_step
            refine wpStill_nil ?_
            go_wp2_with fail
            refine (hrt _).mono ?_
            rintro e w3 ⟨rfl, b3⟩
            go_wp2_with fail
            go_roundw
            case rel => exact ⟨m + 1, by omega, by go_num, by repeat (first | exact Bl.refl _ | assumption | apply Bl.drewN | apply Bl.drew | apply Bl.alloc | refine Bl.trans ?_ (by assumption))⟩
            case measure => simp [intOf]; omega
          · obtain rfl : m = f.length := by omega
            go_wp2_with fail
            go_roundw
            case rel => exact ⟨j + 1, by omega, by go_num, Bl.trans hB2 hB7⟩
            case measure => simp [intOf]; omega
    · obtain rfl : j = fs.length := by omega
      have c4 : ((fs.length : Int) == 0) = false := beq_eq_false_iff_ne.2 (by omega)
      go_wp2_with fail
      go_ret
      exact ⟨rfl, hB3⟩
end Go.Proofs.YtonndofbnhnkpaaGreat.PutA
set_option linter.unusedVariables false
set_option linter.unusedSimpArgs false
set_option linter.unusedSectionVars false
namespace Go.Proofs.YtonndofbnhnkpaaGreat.Rf
open Go.RowKit Num KeyM KeyW StatW StatE Blk VmA VmG Prg EvM PutA
def s0 : RS := ⟨[], fun _ => 0, fun _ => false, 0, 0, false⟩
theorem info4 : (Tryz.prog.info? 4).map (fun i => (i.zero, i.size, i.bytes)) = some (some (.bool false), 1, 1) := by kernel_rfl
theorem isR_start {c : Fx} {base : Nat} {w : World} (hR : w.rowIs c.R 43 11 (ofL (rL c (.slice none 0 0) s0))) (hF : w.rowIs c.FB 3 c.futs (fun _ => .int .i64 0)) (hW : w.rowIs c.WB 4 c.futs (fun _ => .bool false)) (hC : CodeAt c.K w c.pa c.fs) (hf : c.K ≤ c.R ∧ c.K ≤ c.FB ∧ c.K ≤ c.WB) : IsR c base w s0 :=
  ⟨⟨_, hR, World.ownsRow_nil _ _ _ _⟩, hF, hW, hC, hf⟩
theorem start1 (K base : Nat) (pa : Option Addr) (pc futs : Nat) (depth fuel most : Int) (fs : List (List Ins)) (w : World) (hC : CodeAt K w pa fs) (hK : K ≤ w.heap.size) :
    IsR ⟨K, w.heap.size + 1 + 1, w.heap.size, w.heap.size + 1, pa, pc, fs, futs, depth, fuel, most⟩ base (((w.alloc (.cells (madeCells #[.int .i64 0] futs) 3)).alloc (.cells (madeCells #[.bool false] futs) 4)).alloc (.cells #[.slice pa fs.length pc, .int .i64 futs, .int .i64 depth, .int .i64 fuel, .slice none 0 0, .slice (some ⟨w.heap.size, 0, none⟩) futs futs, .slice (some ⟨w.heap.size + 1, 0, none⟩) futs futs, .int .i64 0, .int .i64 0, .int .i64 most, .bool false] 43)).drew s0 := by
  have h1 : (w.alloc (.cells (madeCells #[.int .i64 0] futs) 3)).heap.size = w.heap.size + 1 := by simp
  have h2 : ((w.alloc (.cells (madeCells #[.int .i64 0] futs) 3)).alloc (.cells (madeCells #[.bool false] futs) 4)).heap.size = w.heap.size + 1 + 1 := by simp
  have r1 := World.rowIs_made w (.int .i64 0) futs 3
  have r2 := World.rowIs_made (w.alloc (.cells (madeCells #[.int .i64 0] futs) 3)) (.bool false) futs 4
  rw [h1] at r2
  have r3 := World.rowIs_alloc ((w.alloc (.cells (madeCells #[.int .i64 0] futs) 3)).alloc (.cells (madeCells #[.bool false] futs) 4)) #[.slice pa fs.length pc, .int .i64 futs, .int .i64 depth, .int .i64 fuel, .slice none 0 0, .slice (some ⟨w.heap.size, 0, none⟩) futs futs, .slice (some ⟨w.heap.size + 1, 0, none⟩) futs futs, .int .i64 0, .int .i64 0, .int .i64 most, .bool false] 43 (ofL (rL ⟨K, w.heap.size + 1 + 1, w.heap.size, w.heap.size + 1, pa, pc, fs, futs, depth, fuel, most⟩ (.slice none 0 0) s0)) (by
    show ∀ i, i < 11 → _
    repeat refine all_lt ?_ rfl
    exact all_none)
  rw [h2] at r3
  exact isR_start r3 ((r1.alloc _).alloc _) (r2.alloc _) (CodeAt.bl hC (Bl.drew ((((Bl.refl _).alloc _).alloc _).alloc _))) ⟨by show K ≤ w.heap.size + 1 + 1; omega, by show K ≤ w.heap.size; omega, by show K ≤ w.heap.size + 1; omega⟩
theorem start2 (K base : Nat) (pa : Option Addr) (pc futs : Nat) (depth fuel most : Int) (fs : List (List Ins)) (w : World) (hC : CodeAt K w pa fs) (hK : K ≤ w.heap.size) :
    IsR ⟨K, w.heap.size + 1 + 1, w.heap.size + 1, w.heap.size, pa, pc, fs, futs, depth, fuel, most⟩ base (((w.alloc (.cells (madeCells #[.bool false] futs) 4)).alloc (.cells (madeCells #[.int .i64 0] futs) 3)).alloc (.cells #[.slice pa fs.length pc, .int .i64 futs, .int .i64 depth, .int .i64 fuel, .slice none 0 0, .slice (some ⟨w.heap.size + 1, 0, none⟩) futs futs, .slice (some ⟨w.heap.size, 0, none⟩) futs futs, .int .i64 0, .int .i64 0, .int .i64 most, .bool false] 43)).drew s0 := by
  have h1 : (w.alloc (.cells (madeCells #[.bool false] futs) 4)).heap.size = w.heap.size + 1 := by simp
  have h2 : ((w.alloc (.cells (madeCells #[.bool false] futs) 4)).alloc (.cells (madeCells #[.int .i64 0] futs) 3)).heap.size = w.heap.size + 1 + 1 := by simp
  have r1 := World.rowIs_made w (.bool false) futs 4
  have r2 := World.rowIs_made (w.alloc (.cells (madeCells #[.bool false] futs) 4)) (.int .i64 0) futs 3
  rw [h1] at r2
  have r3 := World.rowIs_alloc ((w.alloc (.cells (madeCells #[.bool false] futs) 4)).alloc (.cells (madeCells #[.int .i64 0] futs) 3)) #[.slice pa fs.length pc, .int .i64 futs, .int .i64 depth, .int .i64 fuel, .slice none 0 0, .slice (some ⟨w.heap.size + 1, 0, none⟩) futs futs, .slice (some ⟨w.heap.size, 0, none⟩) futs futs, .int .i64 0, .int .i64 0, .int .i64 most, .bool false] 43 (ofL (rL ⟨K, w.heap.size + 1 + 1, w.heap.size + 1, w.heap.size, pa, pc, fs, futs, depth, fuel, most⟩ (.slice none 0 0) s0)) (by
    show ∀ i, i < 11 → _
    repeat refine all_lt ?_ rfl
    exact all_none)
  rw [h2] at r3
  exact isR_start r3 (r2.alloc _) ((r1.alloc _).alloc _) (CodeAt.bl hC (Bl.drew ((((Bl.refl _).alloc _).alloc _).alloc _))) ⟨by show K ≤ w.heap.size + 1 + 1; omega, by show K ≤ w.heap.size + 1; omega, by show K ≤ w.heap.size; omega⟩
theorem far_any {c : Fx} {base X t n : Nat} {w : World} {S : RS} {f : Nat → Value} (h : IsR c base w S) (hx : w.rowIs X t n f) (h1 : t ≠ 43) (h2 : t ≠ 3) (h3 : t ≠ 4) : X ≠ c.R ∧ X ≠ c.FB ∧ X ≠ c.WB := by
  obtain ⟨⟨vr, g1, g2⟩, g3, g4, g5, g6⟩ := h
  have ne : ∀ {b m : Nat} {t' : TypeId} {g : Nat → Value}, w.rowIs b t' m g → t' ≠ t → X ≠ b := fun hr ht' e => by
    obtain ⟨cur, hcur⟩ := row_type hx
    exact ty_ne hr hcur (fun e => ht' e.symm) e
  exact ⟨ne g1 (fun e => h1 e.symm), ne g3 (fun e => h2 e.symm), ne g4 (fun e => h3 e.symm)⟩
theorem finish_over (u : RT) (S : RS) (arg : Int) : (finish u S arg).over = S.over := by unfold finish; split <;> rfl
set_option maxRecDepth 100000 in
set_option maxHeartbeats 8000000 in
theorem run_any (pa : Option Addr) (pc futs : Nat) (depth fuel arg most : Int) (fs : List (List Ins)) (w : World) (hP : PV fs futs depth fuel) (hC : CodeAt w.heap.size w pa fs) (hm0 : 0 ≤ most) (hm1 : most ≤ 20000) (n : Nat) (u : RT) (S2 : RS)
    (hev : evLoop fs depth fuel most n (rt0 0 arg 1125899906842624 fuel) s0 = some (u, S2)) (hov : S2.over = false) :
    Calls Tryz.prog 10 #[progV pa fs.length pc futs depth fuel, .int .i64 arg, .int .i64 most] w fun e w' => ∃ (R FB WB : Nat), e = .returned (.tuple #[.agg #[.int .i64 u.how, .int .i64 u.val], .pointer (some ⟨R, 0, none⟩), .int .i64 0]) ∧
      IsR ⟨w.heap.size, R, FB, WB, pa, pc, fs, futs, depth, fuel, most⟩ w.heap.size w' (finish u S2 arg) ∧ Bl w w' := by
  have hck := fun w' (hb : Bl w w') => check_ok pa pc futs depth fuel fs w' hP (Prg.CodeAt.mono (hC.bl hb) hb.size)
  have hf1 := hP.futs1
  have hmi := run_make_row' (P := Tryz.prog) 31 3 (.int .i64 0) 8 Tryz.underlying31 KeyT.info3 rfl .i64 .i64 futs (by omega) (by omega)
  have hmb := run_make_row' (P := Tryz.prog) 32 4 (.bool false) 1 Tryz.underlying32 info4 rfl .i64 .i64 futs (by omega) (by omega)
  have hrow := row4_alloc w (.slice pa fs.length pc) (.int .i64 futs) (.int .i64 depth) (.int .i64 fuel) 24
  have HC := Lib.hid hC
  have HP := Lib.hid hP
  have HEV := Lib.hid hev
  have m1 : ¬ most < 0 := by omega
  have m2 : ¬ 20000 < most := by omega
  clear hC hP hev
  unfold progV at *
  go_enter Tryz.func10, Tryz.ntmps10
  go_wp2_with fail
  refine (hck _ (by repeat (first | exact Bl.refl _ | assumption | apply Bl.drewN | apply Bl.drew | apply Bl.alloc | refine Bl.trans ?_ (by assumption)))).mono ?_
  rintro e w1 ⟨rfl, hb1⟩
  have hrow1 := row_bl (World.rowIs.alloc hrow (.cells #[.int .i64 0, .int .i64 0] 29)) hb1
  have hB1 : Bl w w1 := Bl.trans (((Bl.refl _).alloc _).alloc _) hb1
  obtain ⟨⟨k0, k1, k2, k3⟩, _⟩ := row4_cells hrow1
  have hE1 : w1.rowIs (w.heap.size + 1) 29 2 (fun _ => .int .i64 0) := by
    have h := World.rowIs_alloc (w.alloc (.cells #[.slice pa fs.length pc, .int .i64 futs, .int .i64 depth, .int .i64 fuel] 24)) #[.int .i64 0, .int .i64 0] 29 (fun _ => .int .i64 0) (fun i hi => by
      have hi : i < 2 := hi
      obtain rfl | rfl : i = 0 ∨ i = 1 := by omega
      all_goals rfl)
    have hs : (w.alloc (.cells #[.slice pa fs.length pc, .int .i64 futs, .int .i64 depth, .int .i64 fuel] 24)).heap.size = w.heap.size + 1 := by simp
    rw [hs] at h
    exact row_bl h hb1
  have hs1 : w.heap.size + 1 < w1.heap.size := hE1.lt
  have hs0 : w.heap.size < w1.heap.size := by omega
  clear hrow hck hrow1 hb1
  have HK : Hid (CodeAt w.heap.size w1 pa fs) := HC.out.bl hB1
  have HE1 := Lib.hid hE1
  have HB1 := Lib.hid hB1
  have hsw := hB1.size
  clear hE1 hB1
  go_wp2_with fail
  go_region
  all_goals
    go_upto_region 5 with fail
    refine at_world (fun w3 => (∃ FB WB, IsR ⟨w.heap.size, w1.heap.size + 1 + 1, FB, WB, pa, pc, fs, futs, depth, fuel, most⟩ w.heap.size w3 s0) ∧ w3.rowIs (w.heap.size + 1) 29 2 (fun _ => .int .i64 0) ∧ Bl w w3) ?_ ?_
    · first
        | exact ⟨⟨_, _, start1 w.heap.size w.heap.size pa pc futs depth fuel most fs w1 HK.out hsw⟩, World.rowIs.drew (World.rowIs.alloc (World.rowIs.alloc (World.rowIs.alloc HE1.out _) _) _), Bl.trans HB1.out (Bl.drew ((((Bl.refl _).alloc _).alloc _).alloc _))⟩
        | exact ⟨⟨_, _, start2 w.heap.size w.heap.size pa pc futs depth fuel most fs w1 HK.out hsw⟩, World.rowIs.drew (World.rowIs.alloc (World.rowIs.alloc (World.rowIs.alloc HE1.out _) _) _), Bl.trans HB1.out (Bl.drew ((((Bl.refl _).alloc _).alloc _).alloc _))⟩
    rintro w3 ⟨⟨FB, WB, hI⟩, hE3, hB3⟩
    obtain ⟨c, hc⟩ : ∃ c : Fx, c = ⟨w.heap.size, w1.heap.size + 1 + 1, FB, WB, pa, pc, fs, futs, depth, fuel, most⟩ := ⟨_, rfl⟩
    have hT : Child c w.heap.size 0 arg 1125899906842624 s0 (finish u S2 arg) u.how u.val := by
      subst hc
      exact task_says _ ⟨HP.out, hm0, by show most ≤ 100000; omega⟩ n w.heap.size 0 0 arg 1125899906842624 s0 u S2 HEV.out (by have := HP.out.one; show 0 < fs.length; omega) (by decide +kernel) ⟨by show ((0 : Nat) : Int) + ((0 : Nat) : Int) ≤ 0; omega, by show (0 : Int) ≤ 0; omega, hm0⟩
    have hI' : IsR c w.heap.size w3 s0 := by rw [hc]; exact hI
    have hcR : c.R = w1.heap.size + 1 + 1 := by rw [hc]
    have hT2 := hT w3 hI' hB3.size
    rw [hcR] at hT2
    have HCC := Lib.hid hc
    have HCR := Lib.hid hcR
    have hfar := far_any hI' hE3 (by decide) (by decide) (by decide)
    have hK3 := hI'.far
    have hcK : c.K = w.heap.size := by rw [hc]
    have HE3 := Lib.hid hE3
    have HB3 := Lib.hid hB3
    clear hT hI hI' hc hcR hE3 hB3
    go_wp2_with fail
    refine hT2.mono ?_
    rintro e w4 ⟨rfl, hI4, hc4⟩
    have hE4 : w4.rowIs (w.heap.size + 1) 29 2 (fun _ => .int .i64 0) := hc4.row HE3.out (fun e => by rcases e with e | e | e; exact hfar.1 e; exact hfar.2.1 e; exact hfar.2.2 e)
    have hB4 : Bl w w4 := (Ch.then (Ch.of_bl (S := fun _ => False) HB3.out) hc4 (fun i hi e => by rcases e with e | e | e <;> omega)).bl (fun _ _ h => h)
    have z0 : w4.cell? ⟨w.heap.size + 1, 0, none⟩ = some (.int .i64 0) := hE4.cell (i := 0) (by omega)
    have z1 : w4.cell? ⟨w.heap.size + 1, 1, none⟩ = some (.int .i64 0) := hE4.cell (i := 1) (by omega)
    have y0 := hE4.frozen 0
    have y1 := hE4.frozen 1
    have zl := hE4.lt
    obtain ⟨vr, r1, r2⟩ := hI4.ran
    have q10 : w4.cell? ⟨c.R, 10, none⟩ = some (.bool (finish u S2 arg).over) := r1.cell (i := 10) (by omega)
    have lR := r1.lt
    rw [finish_over, hov, HCR.out] at q10
    rw [HCR.out] at lR
    have HI4 := Lib.hid hI4
    have HE4 := Lib.hid hE4
    have HB4 := Lib.hid hB4
    clear r1 r2 hI4 hE4 hB4 hc4 hT2
    go_wp2_with fail
    refine bodyPost_ret (v := .tuple #[.agg #[.int .i64 u.how, .int .i64 u.val], .pointer (some ⟨w1.heap.size + 1 + 1, 0, none⟩), .int .i64 0]) (by simp [results, Tryz.results10, go_sem, z0, z1, zl]) rfl ⟨w1.heap.size + 1 + 1, FB, WB, rfl, ?_, ?_⟩
    · rw [← HCC.out]
      exact IsR.bl (IsR.on35 HI4.out HE4.out (by omega) (((Ch.refl _ _).setB _).setB _)) ((Bl.refl _).alloc _)
    · exact Bl.alloc (show Bl w _ from Below.setCell (Below.setCell (show Below w.heap.size w _ from HB4.out) (Nat.le_succ _) _) (Nat.le_succ _) _) _
end Go.Proofs.YtonndofbnhnkpaaGreat.Rf
set_option linter.unusedVariables false
set_option linter.unusedSimpArgs false
set_option linter.unusedSectionVars false
namespace Go.Proofs.YtonndofbnhnkpaaGreat.Rf
open Go.RowKit Num KeyM KeyW StatW Blk VmA VmG Prg EvM PutA
def overR (j : Nat) : Value := if j = 0 then .slice none 0 0 else if j = 4 then .slice none 0 0 else if j = 5 then .slice none 0 0 else if j = 6 then .slice none 0 0 else if j = 10 then .bool true else .int .i64 0
set_option maxRecDepth 100000 in
set_option maxHeartbeats 8000000 in
theorem run_over (pa : Option Addr) (pc futs : Nat) (depth fuel arg most : Int) (fs : List (List Ins)) (w : World) (hP : PV fs futs depth fuel) (hC : CodeAt w.heap.size w pa fs) (hm0 : 0 ≤ most) (hm1 : most ≤ 20000) (n : Nat) (u : RT) (S2 : RS)
    (hev : evLoop fs depth fuel most n (rt0 0 arg 1125899906842624 fuel) s0 = some (u, S2)) (hov : S2.over = true) :
    Calls Tryz.prog 10 #[progV pa fs.length pc futs depth fuel, .int .i64 arg, .int .i64 most] w fun e w' => ∃ R : Nat, e = .returned (.tuple #[.agg #[.int .i64 0, .int .i64 0], .pointer (some ⟨R, 0, none⟩), .int .i64 0]) ∧ w'.rowIs R 43 11 overR ∧ Bl w w' := by
  have hck := fun w' (hb : Bl w w') => check_ok pa pc futs depth fuel fs w' hP (Prg.CodeAt.mono (hC.bl hb) hb.size)
  have hf1 := hP.futs1
  have hmi := run_make_row' (P := Tryz.prog) 31 3 (.int .i64 0) 8 Tryz.underlying31 KeyT.info3 rfl .i64 .i64 futs (by omega) (by omega)
  have hmb := run_make_row' (P := Tryz.prog) 32 4 (.bool false) 1 Tryz.underlying32 info4 rfl .i64 .i64 futs (by omega) (by omega)
  have hrow := row4_alloc w (.slice pa fs.length pc) (.int .i64 futs) (.int .i64 depth) (.int .i64 fuel) 24
  have HC := Lib.hid hC
  have HP := Lib.hid hP
  have HEV := Lib.hid hev
  have m1 : ¬ most < 0 := by omega
  have m2 : ¬ 20000 < most := by omega
  clear hC hP hev
  unfold progV at *
  go_enter Tryz.func10, Tryz.ntmps10
  go_wp2_with fail
  refine (hck _ (by repeat (first | exact Bl.refl _ | assumption | apply Bl.drewN | apply Bl.drew | apply Bl.alloc | refine Bl.trans ?_ (by assumption)))).mono ?_
  rintro e w1 ⟨rfl, hb1⟩
  have hrow1 := row_bl (World.rowIs.alloc hrow (.cells #[.int .i64 0, .int .i64 0] 29)) hb1
  have hB1 : Bl w w1 := Bl.trans (((Bl.refl _).alloc _).alloc _) hb1
  obtain ⟨⟨k0, k1, k2, k3⟩, _⟩ := row4_cells hrow1
  have hE1 : w1.rowIs (w.heap.size + 1) 29 2 (fun _ => .int .i64 0) := by
    have h := World.rowIs_alloc (w.alloc (.cells #[.slice pa fs.length pc, .int .i64 futs, .int .i64 depth, .int .i64 fuel] 24)) #[.int .i64 0, .int .i64 0] 29 (fun _ => .int .i64 0) (fun i hi => by
      have hi : i < 2 := hi
      obtain rfl | rfl : i = 0 ∨ i = 1 := by omega
      all_goals rfl)
    have hs : (w.alloc (.cells #[.slice pa fs.length pc, .int .i64 futs, .int .i64 depth, .int .i64 fuel] 24)).heap.size = w.heap.size + 1 := by simp
    rw [hs] at h
    exact row_bl h hb1
  have hs1 : w.heap.size + 1 < w1.heap.size := hE1.lt
  have hs0 : w.heap.size < w1.heap.size := by omega
  clear hrow hck hrow1 hb1
  have HK : Hid (CodeAt w.heap.size w1 pa fs) := HC.out.bl hB1
  have HE1 := Lib.hid hE1
  have HB1 := Lib.hid hB1
  have hsw := hB1.size
  clear hE1 hB1
  go_wp2_with fail
  go_region
  all_goals
    go_upto_region 5 with fail
    refine at_world (fun w3 => (∃ FB WB, IsR ⟨w.heap.size, w1.heap.size + 1 + 1, FB, WB, pa, pc, fs, futs, depth, fuel, most⟩ w.heap.size w3 s0) ∧ w3.rowIs (w.heap.size + 1) 29 2 (fun _ => .int .i64 0) ∧ Bl w w3) ?_ ?_
    · first
        | exact ⟨⟨_, _, start1 w.heap.size w.heap.size pa pc futs depth fuel most fs w1 HK.out hsw⟩, World.rowIs.drew (World.rowIs.alloc (World.rowIs.alloc (World.rowIs.alloc HE1.out _) _) _), Bl.trans HB1.out (Bl.drew ((((Bl.refl _).alloc _).alloc _).alloc _))⟩
        | exact ⟨⟨_, _, start2 w.heap.size w.heap.size pa pc futs depth fuel most fs w1 HK.out hsw⟩, World.rowIs.drew (World.rowIs.alloc (World.rowIs.alloc (World.rowIs.alloc HE1.out _) _) _), Bl.trans HB1.out (Bl.drew ((((Bl.refl _).alloc _).alloc _).alloc _))⟩
    rintro w3 ⟨⟨FB, WB, hI⟩, hE3, hB3⟩
    obtain ⟨c, hc⟩ : ∃ c : Fx, c = ⟨w.heap.size, w1.heap.size + 1 + 1, FB, WB, pa, pc, fs, futs, depth, fuel, most⟩ := ⟨_, rfl⟩
    have hT : Child c w.heap.size 0 arg 1125899906842624 s0 (finish u S2 arg) u.how u.val := by
      subst hc
      exact task_says _ ⟨HP.out, hm0, by show most ≤ 100000; omega⟩ n w.heap.size 0 0 arg 1125899906842624 s0 u S2 HEV.out (by have := HP.out.one; show 0 < fs.length; omega) (by decide +kernel) ⟨by show ((0 : Nat) : Int) + ((0 : Nat) : Int) ≤ 0; omega, by show (0 : Int) ≤ 0; omega, hm0⟩
    have hI' : IsR c w.heap.size w3 s0 := by rw [hc]; exact hI
    have hcR : c.R = w1.heap.size + 1 + 1 := by rw [hc]
    have hT2 := hT w3 hI' hB3.size
    rw [hcR] at hT2
    have HCC := Lib.hid hc
    have HCR := Lib.hid hcR
    have hfar := far_any hI' hE3 (by decide) (by decide) (by decide)
    have hK3 := hI'.far
    have hcK : c.K = w.heap.size := by rw [hc]
    have HE3 := Lib.hid hE3
    have HB3 := Lib.hid hB3
    clear hT hI hI' hc hcR hE3 hB3
    go_wp2_with fail
    refine hT2.mono ?_
    rintro e w4 ⟨rfl, hI4, hc4⟩
    have hE4 : w4.rowIs (w.heap.size + 1) 29 2 (fun _ => .int .i64 0) := hc4.row HE3.out (fun e => by rcases e with e | e | e; exact hfar.1 e; exact hfar.2.1 e; exact hfar.2.2 e)
    have hB4 : Bl w w4 := (Ch.then (Ch.of_bl (S := fun _ => False) HB3.out) hc4 (fun i hi e => by rcases e with e | e | e <;> omega)).bl (fun _ _ h => h)
    have z0 : w4.cell? ⟨w.heap.size + 1, 0, none⟩ = some (.int .i64 0) := hE4.cell (i := 0) (by omega)
    have z1 : w4.cell? ⟨w.heap.size + 1, 1, none⟩ = some (.int .i64 0) := hE4.cell (i := 1) (by omega)
    have y0 := hE4.frozen 0
    have y1 := hE4.frozen 1
    have zl := hE4.lt
    have x0 : ∀ o1 o2, ((w4.alloc o1).alloc o2).cell? ⟨w.heap.size + 1, 0, none⟩ = some (.int .i64 0) := fun o1 o2 => (World.rowIs.alloc (World.rowIs.alloc hE4 o1) o2).cell (i := 0) (by omega)
    have x1 : ∀ o1 o2, ((w4.alloc o1).alloc o2).cell? ⟨w.heap.size + 1, 1, none⟩ = some (.int .i64 0) := fun o1 o2 => (World.rowIs.alloc (World.rowIs.alloc hE4 o1) o2).cell (i := 1) (by omega)
    have xl : ∀ o1 o2, w.heap.size + 1 < ((w4.alloc o1).alloc o2).heap.size := fun o1 o2 => (World.rowIs.alloc (World.rowIs.alloc hE4 o1) o2).lt
    have y2 : ∀ o1 o2, ((w4.alloc o1).alloc o2).frozen? ⟨w.heap.size + 1, 0, none⟩ = false := fun o1 o2 => (World.rowIs.alloc (World.rowIs.alloc hE4 o1) o2).frozen 0
    have y3 : ∀ o1 o2, ((w4.alloc o1).alloc o2).frozen? ⟨w.heap.size + 1, 1, none⟩ = false := fun o1 o2 => (World.rowIs.alloc (World.rowIs.alloc hE4 o1) o2).frozen 1
    obtain ⟨vr, r1, r2⟩ := hI4.ran
    have q10 : w4.cell? ⟨c.R, 10, none⟩ = some (.bool (finish u S2 arg).over) := r1.cell (i := 10) (by omega)
    have lR := r1.lt
    rw [finish_over, hov, HCR.out] at q10
    rw [HCR.out] at lR
    have HI4 := Lib.hid hI4
    have HE4 := Lib.hid hE4
    have HB4 := Lib.hid hB4
    clear r1 r2 hI4 hE4 hB4 hc4 hT2
    go_wp2_with fail
    refine bodyPost_ret (v := .tuple #[.agg #[.int .i64 0, .int .i64 0], .pointer (some ⟨w4.heap.size + 1, 0, none⟩), .int .i64 0]) (by simp [results, Tryz.results10, go_sem, z0, z1, zl, x0, x1]) rfl ⟨w4.heap.size + 1, rfl, ?_, ?_⟩
    · have h := World.rowIs_alloc (w4.alloc (.cells #[.int .i64 u.how, .int .i64 u.val] 29)) #[.slice none 0 0, .int .i64 0, .int .i64 0, .int .i64 0, .slice none 0 0, .slice none 0 0, .slice none 0 0, .int .i64 0, .int .i64 0, .int .i64 0, .bool true] 43 overR (by
        show ∀ i, i < 11 → _
        repeat refine all_lt ?_ rfl
        exact all_none)
      have hs : (w4.alloc (.cells #[.int .i64 u.how, .int .i64 u.val] 29)).heap.size = w4.heap.size + 1 := by simp
      rw [hs] at h
      exact row_setO (row_setO h (by omega) _) (by omega) _
    · exact Below.setCell (Below.setCell (show Below w.heap.size w _ from Bl.alloc (Bl.alloc HB4.out _) _) (Nat.le_succ _) _) (Nat.le_succ _) _
end Go.Proofs.YtonndofbnhnkpaaGreat.Rf
