/- The reference's evaluator: what ran, in the order of keys. -/
import Derived.Test.YtonndofbnhnkpaaRfO
import Derived.Test.YtonndofbnhnkpaaStatD
import Derived.Test.YtonndofbnhnkpaaR27E
import Derived.Test.YtonndofbnhnkpaaEvB
namespace Go.Proofs.Ytonndofbnhnkpaa.Rf
open Go.RowKit Num KeyM KeyW StatW StatO StatE Blk VmA VmG Prg EvM App R27
theorem rcs5_len (f : List FRan) : (rcs5 f).length = f.length * 5 := by
  induction f with
  | nil => rfl
  | cons r m ih => unfold rcs5 at *; rw [List.flatMap_cons, List.length_append, ih, List.length_cons]; simp [rc5]; omega
theorem rcs5_get (m : List FRan) (i f : Nat) (r : FRan) (h : m[i]? = some r) (hf : f < 5) : (rcs5 m)[i * 5 + f]? = (rc5 r)[f]? := by
  induction m generalizing i with
  | nil => simp at h
  | cons s m ih =>
    unfold rcs5 at *
    rw [List.flatMap_cons]
    cases i with
    | zero =>
      simp at h; subst h
      rw [List.getElem?_append_left (by simp [rc5]; omega)]; simp
    | succ i =>
      rw [List.getElem?_append_right (by simp [rc5]; omega)]
      have : (i + 1) * 5 + f - (rc5 s).length = i * 5 + f := by simp [rc5]; omega
      rw [this]
      exact ih i (by simpa using h)
theorem rcs5_app (a b : List FRan) : rcs5 (a ++ b) = rcs5 a ++ rcs5 b := by unfold rcs5; rw [List.flatMap_append]
theorem rcs5_cut (m : List FRan) (k : Nat) : rcs5 m = rcs5 (m.take k) ++ rcs5 (m.drop k) := by rw [← rcs5_app, List.take_append_drop]
theorem rcs5_take (m : List FRan) (k : Nat) (h : k ≤ m.length) : (rcs5 m).take (k * 5) = rcs5 (m.take k) := by
  rw [rcs5_cut m k, List.take_left' (by rw [rcs5_len, List.length_take]; omega)]
theorem rcs5_drop (m : List FRan) (k : Nat) (h : k ≤ m.length) : (rcs5 m).drop (k * 5) = rcs5 (m.drop k) := by
  rw [rcs5_cut m k, List.drop_left' (by rw [rcs5_len, List.length_take]; omega)]
theorem put_at (x : FRan) : ∀ (m : List FRan) (k : Nat), k ≤ m.length → (∀ j y, j < k → m[j]? = some y → y.key < x.key) → (∀ y, m[k]? = some y → ¬ y.key < x.key) → put m x = m.take k ++ x :: m.drop k
  | [], k, hk, _, _ => by simp at hk; subst hk; rfl
  | y :: m, 0, _, _, h2 => by unfold put; rw [if_neg (h2 y rfl)]; rfl
  | y :: m, k + 1, hk, h1, h2 => by
    unfold put
    rw [if_pos (h1 0 y (by omega) rfl), put_at x m k (by simpa using hk) (fun j z hj hz => h1 (j + 1) z (by omega) (by simpa using hz)) (fun z hz => h2 z (by simpa using hz))]
    rfl
theorem info37 : (Try.prog.info? 37).map (fun i => (i.zero, i.size, i.bytes)) = some (some (.agg #[.int .i64 0, .int .i64 0, .int .i64 0, .int .i64 0, .int .i64 0]), 5, 40) := by kernel_rfl
def ranV (x : FRan) : Value := .agg #[.int .i64 x.key, .int .i64 x.fn, .int .i64 x.arg, .int .i64 x.how, .int .i64 x.val]
theorem one5 {m : List FRan} : ∀ u ∈ rcs5 m, u.oneCell' = true := by
  intro u hu
  unfold rcs5 at hu
  rw [List.mem_flatMap] at hu
  obtain ⟨r, _, hr⟩ := hu
  simp [rc5] at hr
  rcases hr with rfl | rfl | rfl | rfl | rfl <;> rfl
set_option maxRecDepth 100000 in
set_option maxHeartbeats 16000000 in
theorem put_any (x : FRan) (base : Nat) (m : List FRan) (v : Value) (w : World) (h : w.ownsRow base 37 5 v m.length (rcs5 m)) (hl : m.length ≤ 100000) (hbs : base ≤ w.heap.size) :
    Calls Try.prog 131 #[v, ranV x] w fun e w' => ∃ v', e = .returned v' ∧ w'.ownsRow base 37 5 v' (m.length + 1) (rcs5 (put m x)) ∧ Bl w w' := by
  obtain ⟨i0, hi, hz0, hz1, hz2⟩ := info_parts info37
  have HX : Hid (rc5 x = [.int .i64 x.key, .int .i64 x.fn, .int .i64 x.arg, .int .i64 x.how, .int .i64 x.val]) := rfl
  have hrow := row5_alloc w (.int .i64 x.key) (.int .i64 x.fn) (.int .i64 x.arg) (.int .i64 x.how) (.int .i64 x.val) 37
  have hown1 := h.alloc (.cells #[.int .i64 x.key, .int .i64 x.fn, .int .i64 x.arg, .int .i64 x.how, .int .i64 x.val] 37)
  unfold ranV
  rcases own_cases h with ⟨rfl, hm0⟩ | ⟨g, cp, rfl, hgb, hgl, hmc⟩
  · obtain rfl := List.eq_nil_of_length_eq_zero hm0
    have HP : Hid (put [] x = [x]) := rfl
    clear h hown1 hm0
    go_enter Try.func131, Try.ntmps131
    go_wp2_with fail
    have hB1 : Bl w (w.alloc (.cells #[.int .i64 x.key, .int .i64 x.fn, .int .i64 x.arg, .int .i64 x.how, .int .i64 x.val] 37)) := (Bl.refl _).alloc _
    generalize (w.alloc (.cells #[.int .i64 x.key, .int .i64 x.fn, .int .i64 x.arg, .int .i64 x.how, .int .i64 x.val] 37)) = W1 at *
    obtain ⟨X, hX⟩ : ∃ X, w.heap.size = X := ⟨_, rfl⟩
    rw [hX] at hrow hbs ⊢
    have HXX := Lib.hid hX
    clear hX
    go_loopw [5] (fun i w2 => i = .int .i64 0 ∧ Bl W1 w2) (fun i _ => 0)
    case atStart => exact ⟨rfl, Bl.refl _⟩
    case round =>
      obtain ⟨rfl, hB2⟩ := hrel
      have hB3 : Bl w wr := Bl.trans hB1 hB2
      have x0 : wr.cell? ⟨X, 0, none⟩ = some (.int .i64 x.key) := st_cell hB2 (hrow.cell (i := 0) (by omega))
      have x1 : wr.cell? ⟨X, 1, none⟩ = some (.int .i64 x.fn) := st_cell hB2 (hrow.cell (i := 1) (by omega))
      have x2 : wr.cell? ⟨X, 2, none⟩ = some (.int .i64 x.arg) := st_cell hB2 (hrow.cell (i := 2) (by omega))
      have x3 : wr.cell? ⟨X, 3, none⟩ = some (.int .i64 x.how) := st_cell hB2 (hrow.cell (i := 3) (by omega))
      have x4 : wr.cell? ⟨X, 4, none⟩ = some (.int .i64 x.val) := st_cell hB2 (hrow.cell (i := 4) (by omega))
      have hbw : base ≤ wr.heap.size := by have := hB3.size; have := HXX.out; omega
      go_wp2_with fail
      go_quiet (fail)
      go_wp2_with (refine wpList_append_own_none rfl _ _ 31 rfl base 37 i0 5 Try.underlying31 hi _ 0 [] rfl (World.ownsRow_nil _ _ _ _) rfl ?_)
      have hBq : Bl w (wr.drewN nq) := Bl.drewN hB3 _
      have x0' : (wr.drewN nq).cell? ⟨X, 0, none⟩ = some (.int .i64 x.key) := x0
      have x1' : (wr.drewN nq).cell? ⟨X, 1, none⟩ = some (.int .i64 x.fn) := x1
      have x2' : (wr.drewN nq).cell? ⟨X, 2, none⟩ = some (.int .i64 x.arg) := x2
      have x3' : (wr.drewN nq).cell? ⟨X, 3, none⟩ = some (.int .i64 x.how) := x3
      have x4' : (wr.drewN nq).cell? ⟨X, 4, none⟩ = some (.int .i64 x.val) := x4
      have hs2 : base ≤ (wr.drewN nq).heap.size := hbw
      clear x0 x1 x2 x3 x4 hB3 hB2 hbw
      generalize wr.drewN nq = w2 at *
      go_region_law (first
        | (have z1 := hs2; refine step_append_own (by rfl) _ _ 31 (by rfl) base 37 i0 _ 5 40 Try.underlying31 hi hz0 hz1 hz2 rfl (by decide) _ 0 [] (by rfl) (World.ownsRow_nil _ _ _ _) ⟨w2.heap.size, 0, none⟩ 1 _ [.int .i64 x.key, .int .i64 x.fn, .int .i64 x.arg, .int .i64 x.how, .int .i64 x.val] (by rfl) (by rfl) (World.news_of_block (cs := #[.int .i64 x.key, .int .i64 x.fn, .int .i64 x.arg, .int .i64 x.how, .int .i64 x.val]) (t := 37) (fr := (0, 0)) (heap_alloc_new w2 _)) (by intro u hu; simp at hu; rcases hu with rfl | rfl | rfl | rfl | rfl <;> rfl) (by decide) (by decide) (by simp; omega) ?_; intro va wa howna hgra)
        | (refine step_append_none (by rfl) _ _ 31 (by rfl) base 37 i0 5 Try.underlying31 hi va _ _ (by rfl) howna (by rfl) ?_))
      go_wp2_with fail
      have hBa : Bl w wa := Below.grown (show Below w.heap.size w (w2.alloc (.cells #[.int .i64 x.key, .int .i64 x.fn, .int .i64 x.arg, .int .i64 x.how, .int .i64 x.val] 37)).drew from Bl.drew (hBq.alloc _)) hgra (by have := hBq.size; simp; omega) (fun k hk => by cases hk)
      go_ret
      exact ⟨va, rfl, by rw [HP.out]; show wa.ownsRow _ _ _ _ 1 (rc5 x ++ []); rw [HX.out]; exact howna, hBa⟩
  · clear h
    go_enter Try.func131, Try.ntmps131
    go_wp2_with fail
    have hB1 : Bl w (w.alloc (.cells #[.int .i64 x.key, .int .i64 x.fn, .int .i64 x.arg, .int .i64 x.how, .int .i64 x.val] 37)) := (Bl.refl _).alloc _
    generalize (w.alloc (.cells #[.int .i64 x.key, .int .i64 x.fn, .int .i64 x.arg, .int .i64 x.how, .int .i64 x.val] 37)) = W1 at *
    obtain ⟨X, hX⟩ : ∃ X, w.heap.size = X := ⟨_, rfl⟩
    rw [hX] at hrow hbs ⊢
    have HXX := Lib.hid hX
    clear hX
    go_loopw [5] (fun i w2 => ∃ k : Nat, k ≤ m.length ∧ i = .int .i64 k ∧ Hid (∀ (q : Nat) y, q < k → m[q]? = some y → y.key < x.key) ∧ Bl W1 w2) (fun i _ => m.length - (intOf i).toNat)
    case atStart => exact ⟨0, by omega, rfl, fun q y hq => by omega, Bl.refl _⟩
    case round =>
      obtain ⟨k, hk, rfl, hA, hB2⟩ := hrel
      have hB3 : Bl w wr := Bl.trans hB1 hB2
      have x0 : wr.cell? ⟨X, 0, none⟩ = some (.int .i64 x.key) := st_cell hB2 (hrow.cell (i := 0) (by omega))
      have x1 : wr.cell? ⟨X, 1, none⟩ = some (.int .i64 x.fn) := st_cell hB2 (hrow.cell (i := 1) (by omega))
      have x2 : wr.cell? ⟨X, 2, none⟩ = some (.int .i64 x.arg) := st_cell hB2 (hrow.cell (i := 2) (by omega))
      have x3 : wr.cell? ⟨X, 3, none⟩ = some (.int .i64 x.how) := st_cell hB2 (hrow.cell (i := 3) (by omega))
      have x4 : wr.cell? ⟨X, 4, none⟩ = some (.int .i64 x.val) := st_cell hB2 (hrow.cell (i := 4) (by omega))
      have hown2 := KeyT.own_later hown1 hB2
      have hd : (k < m.length ∧ ∃ y, m[k]? = some y ∧ y.key < x.key) ∨ (Hid (put m x = m.take k ++ x :: m.drop k) ∧ (m.length ≤ k ∨ ∃ y, k < m.length ∧ m[k]? = some y ∧ ¬ y.key < x.key)) := by
        by_cases hkl : k < m.length
        · obtain ⟨y, hy⟩ : ∃ y, m[k]? = some y := ⟨_, List.getElem?_eq_getElem hkl⟩
          by_cases hxy : y.key < x.key
          · exact Or.inl ⟨hkl, y, hy, hxy⟩
          · refine Or.inr ⟨put_at x m k hk (fun q y hq hy => hA.out q y hq hy) (fun z hz => ?_), Or.inr ⟨y, hkl, hy, hxy⟩⟩
            rw [hy] at hz; cases hz; exact hxy
        · refine Or.inr ⟨put_at x m k hk (fun q y hq hy => hA.out q y hq hy) (fun z hz => ?_), Or.inl (by omega)⟩
          rw [List.getElem?_eq_none (by omega)] at hz; cases hz
      rcases hd with ⟨hkl, y, hy, hxy⟩ | ⟨HI, hd⟩
      · have y0 : wr.cell? ⟨g, k * 5, none⟩ = some (.int .i64 y.key) := (hown2.cellAt _ (by omega)).trans (rcs5_get m k 0 y hy (by omega))
        have a1 : (k : Int) < (m.length : Int) := by omega
        have a2 : (0 : Int) ≤ (k : Int) := by omega
        have HA : Hid (∀ (q : Nat) y, q < k + 1 → m[q]? = some y → y.key < x.key) := by
          intro q z hq hz
          by_cases h : q = k
          · subst h; rw [hy] at hz; cases hz; exact hxy
          · exact hA.out q z (by omega) hz
        clear hy
        go_wp2_with fail
        go_quiet (fail)
        go_wp2_with fail
        go_roundw
        case rel => exact ⟨k + 1, by omega, by go_num, HA, Bl.drewN hB2 _⟩
        case measure => simp [intOf]; omega
      · have a1 : (k : Int) ≤ (m.length : Int) := by omega
        have a2 : (0 : Int) ≤ (k : Int) := by omega
        have a3 : (m.length : Int) ≤ (cp : Int) := by omega
        have a4 : (k : Int) ≤ (cp : Int) := by omega
        rcases hd with hd | hd
        case' inl =>
          have a5 : decide (k < m.length) = false := by simp; omega
          have HD := Lib.hid hd
          clear hd
        case' inr =>
          obtain ⟨y, hkl, hy, hxy⟩ := hd
          have y0 : wr.cell? ⟨g, k * 5, none⟩ = some (.int .i64 y.key) := (hown2.cellAt _ (by omega)).trans (rcs5_get m k 0 y hy (by omega))
          have a5 : (k : Int) < (m.length : Int) := by omega
          clear hy
        all_goals
          go_wp2_with fail
          go_quiet (fail)
          clear a5
          go_wp2_with (refine wpList_append_own_at _ rfl _ _ 31 rfl base 37 i0 _ 5 40 Try.underlying31 hi hz0 hz1 hz2 rfl (by decide) _ 0 [] rfl (World.ownsRow_nil _ _ _ _) ⟨g, 0, none⟩ k cp ((rcs5 m).take (k * 5)) rfl ?cl (src_take hown2 (k * 5)) ?c2 ?c3 ?c4 ?c5 ?_)
          case cl => rw [List.length_take, rcs5_len]; omega
          case c2 => intro u hu; exact one5 u (List.mem_of_mem_take hu)
          case c3 => unfold maxLen; omega
          case c4 => omega
          case c5 => have := hB3.size; have := HXX.out; simp; omega
          intro vn w3 hown3 hgr3 _ hat3
          have hBl3 := bl_of_grown hgr3
          have hw3 : wr.heap.size ≤ w3.heap.size := hBl3.size
          have hBr : Bl wr w3 := Bl.trans (Bl.drewN (Bl.refl _) nq) hBl3
          have hat : vn.ownBlock = none ∨ vn.ownBlock ≠ some g := by
            rcases hat3 with h | h
            · exact Or.inl h
            · right; rw [h]; simp
              have := hown2.lt g rfl; omega
          have hvn : ∀ q, vn.ownBlock = some q → w.heap.size ≤ q := by
            intro q hq
            have h3 := hB3.size
            rcases hat3 with h | h
            · rw [h] at hq; cases hq
            · rw [h] at hq; simp at hq; omega
          have HVN := Lib.hid hvn
          clear hvn
          have hown4 := KeyT.own_later hown2 hBr
          have hB4 : Bl w w3 := Bl.trans hB3 hBr
          have x0 := st_cell hBr x0
          have x1 := st_cell hBr x1
          have x2 := st_cell hBr x2
          have x3 := st_cell hBr x3
          have x4 := st_cell hBr x4
          have hws : base ≤ w3.heap.size := by have := hB4.size; have := HXX.out; omega
          clear hgr3 hat3 hBl3 hown2 hB3 hB2
          have b5 : (0 : Int) ≤ (m.length : Int) := by omega
          have hown5 := World.ownsRow.alloc (show w3.drew.ownsRow _ _ _ _ _ _ from hown3) (.cells #[.int .i64 x.key, .int .i64 x.fn, .int .i64 x.arg, .int .i64 x.how, .int .i64 x.val] 37)
          have hown6 := World.ownsRow.alloc (show w3.drew.ownsRow _ _ _ _ _ _ from hown4) (.cells #[.int .i64 x.key, .int .i64 x.fn, .int .i64 x.arg, .int .i64 x.how, .int .i64 x.val] 37)
          have hB5 : Bl w (w3.drew.alloc (.cells #[.int .i64 x.key, .int .i64 x.fn, .int .i64 x.arg, .int .i64 x.how, .int .i64 x.val] 37)) := (Bl.drew hB4).alloc _
          have hlr : ((rcs5 m).drop (k * 5)).length = (m.length - k) * 5 := by rw [List.length_drop, rcs5_len, Nat.sub_mul]
          have HLR := Lib.hid hlr
          have HW : Hid ((List.take (k * 5) (rcs5 m) ++ rc5 x) ++ (rcs5 m).drop (k * 5) = rcs5 (put m x) ∧ k + 1 + (m.length - k) = m.length + 1) := by
            refine ⟨?_, by omega⟩
            rw [HI.out, rcs5_app, rcs5_take m k hk, rcs5_drop m k hk]; unfold rcs5; rw [List.flatMap_cons, List.append_assoc]
          clear hlr hown3 hown4
          go_wp2_with fail
          by_cases hce : cp = k
          · subst hce
            obtain rfl : m.length = cp := by omega
            have hdn : (rcs5 m).drop (m.length * 5) = [] := List.drop_eq_nil_of_le (by rw [rcs5_len]; omega)
            have HDN := Lib.hid hdn
            clear hdn
            go_region_law (first
              | (have z1 := hws; refine step_append_at (by rfl) _ _ 31 (by rfl) base 37 i0 _ 5 40 Try.underlying31 hi hz0 hz1 hz2 rfl (by decide) vn m.length _ (by rfl) hown5 ⟨w3.heap.size, 0, none⟩ 1 _ (rc5 x) (by rfl) (by rw [HX.out]; rfl) (by rw [HX.out]; exact World.news_of_block (cs := #[.int .i64 x.key, .int .i64 x.fn, .int .i64 x.arg, .int .i64 x.how, .int .i64 x.val]) (t := 37) (fr := (0, 0)) (heap_alloc_new w3 _)) (by rw [HX.out]; intro u hu; simp at hu; rcases hu with rfl | rfl | rfl | rfl | rfl <;> rfl) (by unfold maxLen; omega) (by omega) (by simp; omega) ?_; intro va wa howna hgra hata)
              | (refine step_append_at (by rfl) _ _ 31 (by rfl) base 37 i0 _ 5 40 Try.underlying31 hi hz0 hz1 hz2 rfl (by decide) va (m.length + 1) _ (by rfl) howna ⟨g, 0, none⟩ 0 _ [] (by rfl) (by rfl) (fun j u hu => by simp at hu) (fun u hu => by simp at hu) (by unfold maxLen; omega) (by omega) (by have := hgra.size; simp at this; omega) ?_; intro vb wb hownb hgrb hatb))
            go_wp2_with fail
            have hBa : Bl w wa := Below.grown hB5 hgra hB5.size (fun q hq => HVN.out q hq)
            have hva : ∀ q, va.ownBlock = some q → w.heap.size ≤ q := by
              intro q hq
              have h3 := hB4.size
              rcases hata with h | h
              · rw [h] at hq; exact HVN.out q hq
              · rw [h] at hq; simp at hq; omega
            have hBb : Bl w wb := Below.grown (show Below w.heap.size w wa from hBa) hgrb hBa.size (fun q hq => hva q hq)
            have hw1 := HW.out.1
            have hw2 := HW.out.2
            rw [HDN.out] at hw1
            rw [hw1] at hownb
            clear hw1 hw2
            go_ret
            exact ⟨vb, rfl, hownb, hBb⟩
          · have b6 : (k : Int) < (cp : Int) := by omega
            have b7 : (cp == k) = false := by simpa using hce
            go_region_law (first
              | (have z1 := hws; refine step_append_at (by rfl) _ _ 31 (by rfl) base 37 i0 _ 5 40 Try.underlying31 hi hz0 hz1 hz2 rfl (by decide) vn k _ (by rfl) hown5 ⟨w3.heap.size, 0, none⟩ 1 _ (rc5 x) (by rfl) (by rw [HX.out]; rfl) (by rw [HX.out]; exact World.news_of_block (cs := #[.int .i64 x.key, .int .i64 x.fn, .int .i64 x.arg, .int .i64 x.how, .int .i64 x.val]) (t := 37) (fr := (0, 0)) (heap_alloc_new w3 _)) (by rw [HX.out]; intro u hu; simp at hu; rcases hu with rfl | rfl | rfl | rfl | rfl <;> rfl) (by unfold maxLen; omega) (by omega) (by simp; omega) ?_; intro va wa howna hgra hata)
              | (have hlA := World.ownsRow.kept hown6 hgra (Or.inr (by rcases hat with h | h <;> (first | (rw [h]; simp [Value.ownBlock]) | exact fun q => h q.symm))); refine step_append_at (by rfl) _ _ 31 (by rfl) base 37 i0 _ 5 40 Try.underlying31 hi hz0 hz1 hz2 rfl (by decide) va (k + 1) _ (by rfl) howna ⟨g, k * 5, none⟩ (m.length - k) _ ((rcs5 m).drop (k * 5)) (by rfl) HLR.out (src_drop hlA (k * 5)) (fun u hu => one5 u (List.mem_of_mem_drop hu)) (by unfold maxLen; omega) (by omega) (by have := hgra.size; simp at this; omega) ?_; intro vb wb hownb hgrb hatb))
            go_wp2_with fail
            have hBa : Bl w wa := Below.grown hB5 hgra hB5.size (fun q hq => HVN.out q hq)
            have hva : ∀ q, va.ownBlock = some q → w.heap.size ≤ q := by
              intro q hq
              have h3 := hB4.size
              rcases hata with h | h
              · rw [h] at hq; exact HVN.out q hq
              · rw [h] at hq; simp at hq; omega
            have hBb : Bl w wb := Below.grown (show Below w.heap.size w wa from hBa) hgrb hBa.size (fun q hq => hva q hq)
            rw [HW.out.1, HW.out.2] at hownb
            go_ret
            exact ⟨vb, rfl, hownb, hBb⟩
end Go.Proofs.Ytonndofbnhnkpaa.Rf
